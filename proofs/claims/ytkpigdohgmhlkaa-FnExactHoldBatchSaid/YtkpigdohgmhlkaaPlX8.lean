/-
  Exact law: HoldBatch. (Written by gen_law.py.)
-/
import Derived.Test.YtkpigdohgmhlkaaPlHb
namespace Go.Proofs.Ytkpigdohgmhlkaa
open Go.RowKit

set_option maxHeartbeats 8000000 in
set_option maxRecDepth 100000 in
theorem walkFnExactHoldBatch (A0 : Option Addr) (l0 : List Lt) (c0 : Nat) (A1 : Option Addr) (l1 : List Str) (c1 : Nat) (w : World) (h0 : LtIn w A0 l0 c0) (h1 : StrIn w A1 l1 c1) :
    Calls Try.prog 14 #[.slice A0 l0.length c0, .slice A1 l1.length c1] w fun e w' => e = .returned (.bool true) ∧ Below w.heap.size w w' := by
  obtain ⟨hlc, hcm, hs, hr⟩ := h0
  have Hr0 := Lib.hid hr
  have Hs0 := Lib.hid hs
  have hlm0 : l0.length ≤ 9223372036854775807 := by unfold maxLen at hcm; omega
  clear hr hs hcm hlc
  obtain ⟨hlc, hcm, hs, hr⟩ := h1
  have Hr1 := Lib.hid hr
  have Hs1 := Lib.hid hs
  have hlm1 : l1.length ≤ 9223372036854775807 := by unfold maxLen at hcm; omega
  clear hr hs hcm hlc
  have HB := Lib.hid (Below.refl w.heap.size w)
  by_cases hb : ¬ (ltBulk l0 : Int) ≤ 1048576
  · have Hlo0 := Lib.hid (leftOf_none hb)
    clear hb
    go_enter Try.func14, Try.ntmps14
    go_wp2_with fail
    refine (lawSzLetterS A0 l0 _ _ rfl 1048576 _ hlm0 Hs0.out (by omega) (by omega) (Hr0.out.below HB.out)).mono ?_
    rw [Hlo0.out]
    rintro e w' ⟨rfl, hb⟩
    have HB := Lib.hid (below_step HB.out hb)
    clear hb
    go_wp2
    go_ret
    exact ⟨rfl, HB.out⟩
  have hb := Decidable.not_not.1 hb
  have Hlo0 := Lib.hid (leftOf_some hb)
  have hn0 : l0.length ≤ 1048576 := by have := ltBulk_len l0; omega
  have Ha0 := Lib.hid (ltBulk_all (l := l0) (b := 1048576) (by omega))
  obtain ⟨r0, hr, hr00, hr01⟩ : ∃ r : Int, (1048576 : Int) - ltBulk l0 = r ∧ 0 ≤ r ∧ r ≤ 1048576 := ⟨_, rfl, by omega, by omega⟩
  rw [hr] at Hlo0
  clear hb hr
  by_cases hb : ¬ (strBulk l1 : Int) ≤ r0
  · have Hlo1 := Lib.hid (leftOf_none hb)
    clear hb
    go_enter Try.func14, Try.ntmps14
    go_wp2_with fail
    refine (lawSzLetterS A0 l0 _ _ rfl 1048576 _ hlm0 Hs0.out (by omega) (by omega) (Hr0.out.below HB.out)).mono ?_
    rw [Hlo0.out]
    rintro e w' ⟨rfl, hb⟩
    have HB := Lib.hid (below_step HB.out hb)
    clear hb
    go_wp2_with fail
    refine (lawSzStringS A1 l1 _ _ rfl r0 _ hlm1 Hs1.out (by omega) (by omega) (Hr1.out.below HB.out)).mono ?_
    rw [Hlo1.out]
    rintro e w' ⟨rfl, rfl⟩
    go_wp2
    go_ret
    exact ⟨rfl, HB.out⟩
  have hb := Decidable.not_not.1 hb
  have Hlo1 := Lib.hid (leftOf_some hb)
  have hn1 : l1.length ≤ 1048576 := by have := strBulk_len l1; omega
  have Ha1 := Lib.hid (strBulk_all (l := l1) (b := 1048576) (by omega))
  obtain ⟨r1, hr, hr10, hr11⟩ : ∃ r : Int, (r0 : Int) - strBulk l1 = r ∧ 0 ≤ r ∧ r ≤ 1048576 := ⟨_, rfl, by omega, by omega⟩
  rw [hr] at Hlo1
  clear hb hr
  obtain ⟨r, hr⟩ : ∃ r, holdR l0 l1 = r := ⟨_, rfl⟩
  have hrl : r.f.length ≤ 1048576 ∧ r.k.length ≤ 1048576 := by rw [← hr]; exact holdR_len hn0
  have Hv := Lib.hid hr
  clear hr
  have hvv : (r.ok != r.ok) = false := by simp
  go_enter Try.func14, Try.ntmps14
  go_wp2_with fail
  refine (lawSzLetterS A0 l0 _ _ rfl 1048576 _ hlm0 Hs0.out (by omega) (by omega) (Hr0.out.below HB.out)).mono ?_
  rw [Hlo0.out]
  rintro e w1 ⟨rfl, hb⟩
  have HB := Lib.hid (below_step HB.out hb)
  have Z1' := hb.size
  try simp only [World.size_alloc] at Z1'
  have Z1 := Lib.hid Z1'
  clear Z1'
  clear hb 
  go_wp2_with fail
  refine (lawSzStringS A1 l1 _ _ rfl r0 _ hlm1 Hs1.out (by omega) (by omega) (Hr1.out.below HB.out)).mono ?_
  rw [Hlo1.out]
  rintro e w2 ⟨rfl, rfl⟩
  go_wp2_with fail
  refine (lawToLetterS A0 l0 _ _ rfl _ (by omega) (Hr0.out.below HB.out)).mono ?_
  try simp only [World.size_alloc]
  rintro e w2 ⟨rfl, ho, hb⟩
  have hb : Below (w1).heap.size (w1) w2 := by first | exact hb | simpa only [World.size_alloc] using hb
  have HB := Lib.hid (below_step HB.out hb)
  have Z2' := hb.size
  try simp only [World.size_alloc] at Z2'
  have Z2 := Lib.hid Z2'
  clear Z2'
  have S0 := Lib.hid ho
  have ES0 : Hid (∀ k, (Value.slice (some ⟨w1.heap.size, 0, none⟩) l0.length l0.length).ownBlock = some k → w1.heap.size ≤ k ∧ k < w2.heap.size) := fun k e => by have := S0.out.lt k e; exact this
  clear ho hb
  go_wp2_with fail
  refine (lawToStringS A1 l1 _ _ rfl _ (by omega) (Hr1.out.below HB.out)).mono ?_
  try simp only [World.size_alloc]
  rintro e w3 ⟨rfl, ho, hb⟩
  have hb : Below (w2).heap.size (w2) w3 := by first | exact hb | simpa only [World.size_alloc] using hb
  have S0 := Lib.hid (S0.out.below hb)
  have HB := Lib.hid (below_step HB.out hb)
  have Z3' := hb.size
  try simp only [World.size_alloc] at Z3'
  have Z3 := Lib.hid Z3'
  clear Z3'
  have S1 := Lib.hid ho
  have ES1 : Hid (∀ k, (Value.slice (some ⟨w2.heap.size, 0, none⟩) l1.length l1.length).ownBlock = some k → w2.heap.size ≤ k ∧ k < w3.heap.size) := fun k e => by have := S1.out.lt k e; exact this
  clear ho hb
  go_wp2_with fail
  refine (specHoldBatch _ _ l0 l1 _ _ _ _ rfl rfl _ (by omega) (by omega) Ha0.out Ha1.out (S0.out.rd ltEnc_len) (S1.out.rd strEnc_len)).mono ?_
  rw [Hv.out]
  rintro e w4 ⟨Aw, kw, cw, Aw', kw', cw', rfl, ho, ho', hd, hb⟩
  try simp only [World.size_alloc] at ho ho'
  have S0 := Lib.hid (S0.out.below hb)
  have S1 := Lib.hid (S1.out.below hb)
  have HB := Lib.hid (below_step HB.out hb)
  have Z4' := hb.size
  try simp only [World.size_alloc] at Z4'
  have Z4 := Lib.hid Z4'
  clear Z4'
  have Ow := Lib.hid ho
  have EOw : Hid (∀ k, (Value.slice Aw kw cw).ownBlock = some k → w3.heap.size ≤ k ∧ k < w4.heap.size) := fun k e => by have := Ow.out.lt k e; exact this
  have Ow' := Lib.hid ho'
  have EOw' : Hid (∀ k, (Value.slice Aw' kw' cw').ownBlock = some k → w3.heap.size ≤ k ∧ k < w4.heap.size) := fun k e => by have := Ow'.out.lt k e; exact this
  have Dw := Lib.hid hd
  clear ho ho' hd hb
  clear S0 ES0
  clear S1 ES1
  go_wp2_with fail
  refine (lawToLetterS A0 l0 _ _ rfl _ (by omega) (Hr0.out.below HB.out)).mono ?_
  try simp only [World.size_alloc]
  rintro e w5 ⟨rfl, ho, hb⟩
  have hb : Below (w4).heap.size (w4) w5 := by first | exact hb | simpa only [World.size_alloc] using hb
  have Ow := Lib.hid (Ow.out.below hb)
  have Ow' := Lib.hid (Ow'.out.below hb)
  have HB := Lib.hid (below_step HB.out hb)
  have Z5' := hb.size
  try simp only [World.size_alloc] at Z5'
  have Z5 := Lib.hid Z5'
  clear Z5'
  have X0 := Lib.hid ho
  have EX0 : Hid (∀ k, (Value.slice (some ⟨w4.heap.size, 0, none⟩) l0.length l0.length).ownBlock = some k → w4.heap.size ≤ k ∧ k < w5.heap.size) := fun k e => by have := X0.out.lt k e; exact this
  clear ho hb
  go_wp2_with fail
  refine (lawToStringS A1 l1 _ _ rfl _ (by omega) (Hr1.out.below HB.out)).mono ?_
  try simp only [World.size_alloc]
  rintro e w6 ⟨rfl, ho, hb⟩
  have hb : Below (w5).heap.size (w5) w6 := by first | exact hb | simpa only [World.size_alloc] using hb
  have Ow := Lib.hid (Ow.out.below hb)
  have Ow' := Lib.hid (Ow'.out.below hb)
  have X0 := Lib.hid (X0.out.below hb)
  have HB := Lib.hid (below_step HB.out hb)
  have Z6' := hb.size
  try simp only [World.size_alloc] at Z6'
  have Z6 := Lib.hid Z6'
  clear Z6'
  have X1 := Lib.hid ho
  have EX1 : Hid (∀ k, (Value.slice (some ⟨w5.heap.size, 0, none⟩) l1.length l1.length).ownBlock = some k → w5.heap.size ≤ k ∧ k < w6.heap.size) := fun k e => by have := X1.out.lt k e; exact this
  clear ho hb
  go_wp2_with fail
  refine (implHoldBatch _ _ l0 l1 _ _ _ _ rfl rfl (Nat.le_refl _) _ (by omega) (by omega) Ha0.out Ha1.out (X0.out.rd ltEnc_len) (X1.out.rd strEnc_len)).mono ?_
  rw [Hv.out]
  rintro e w7 ⟨Ag, kg, cg, Ag', kg', cg', rfl, ho, ho', hd, hb⟩
  try simp only [World.size_alloc] at ho ho'
  have Ow := Lib.hid (Ow.out.below hb)
  have Ow' := Lib.hid (Ow'.out.below hb)
  have X0 := Lib.hid (X0.out.below hb)
  have X1 := Lib.hid (X1.out.below hb)
  have HB := Lib.hid (below_step HB.out hb)
  have Z7' := hb.size
  try simp only [World.size_alloc] at Z7'
  have Z7 := Lib.hid Z7'
  clear Z7'
  have Og := Lib.hid ho
  have EOg : Hid (∀ k, (Value.slice Ag kg cg).ownBlock = some k → w6.heap.size ≤ k ∧ k < w7.heap.size) := fun k e => by have := Og.out.lt k e; exact this
  have Og' := Lib.hid ho'
  have EOg' : Hid (∀ k, (Value.slice Ag' kg' cg').ownBlock = some k → w6.heap.size ≤ k ∧ k < w7.heap.size) := fun k e => by have := Og'.out.lt k e; exact this
  have Dg := Lib.hid hd
  clear ho ho' hd hb
  go_wp2_with fail
  refine (lawEqLetterS _ _ r.f r.f _ _ _ _ Og.out.len Ow.out.len _ (by have := Og.out.len; omega) (by have := Ow.out.len; omega) (Og.out.rd ltEnc_len) (Ow.out.rd ltEnc_len)).mono ?_
  rw [ltsEq_self]
  rintro e w8 ⟨rfl, hb⟩
  have Ow := Lib.hid (Ow.out.below hb)
  have Ow' := Lib.hid (Ow'.out.below hb)
  have X0 := Lib.hid (X0.out.below hb)
  have X1 := Lib.hid (X1.out.below hb)
  have Og := Lib.hid (Og.out.below hb)
  have Og' := Lib.hid (Og'.out.below hb)
  have HB := Lib.hid (below_step HB.out hb)
  have Z8' := hb.size
  try simp only [World.size_alloc] at Z8'
  have Z8 := Lib.hid Z8'
  clear Z8'
  clear hb
  go_wp2_with fail
  refine (lawEqLetterS _ _ r.k r.k _ _ _ _ Og'.out.len Ow'.out.len _ (by have := Og'.out.len; omega) (by have := Ow'.out.len; omega) (Og'.out.rd ltEnc_len) (Ow'.out.rd ltEnc_len)).mono ?_
  rw [ltsEq_self]
  rintro e w9 ⟨rfl, hb⟩
  have Ow := Lib.hid (Ow.out.below hb)
  have Ow' := Lib.hid (Ow'.out.below hb)
  have X0 := Lib.hid (X0.out.below hb)
  have X1 := Lib.hid (X1.out.below hb)
  have Og := Lib.hid (Og.out.below hb)
  have Og' := Lib.hid (Og'.out.below hb)
  have HB := Lib.hid (below_step HB.out hb)
  have Z9' := hb.size
  try simp only [World.size_alloc] at Z9'
  have Z9 := Lib.hid Z9'
  clear Z9'
  clear hb
  go_wp2_with fail
  refine (lawToLetterS A0 l0 _ _ rfl _ (by omega) (Hr0.out.below HB.out)).mono ?_
  try simp only [World.size_alloc]
  rintro e w10 ⟨rfl, ho, hb⟩
  have hb : Below (w9).heap.size (w9) w10 := by first | exact hb | simpa only [World.size_alloc] using hb
  have Ow := Lib.hid (Ow.out.below hb)
  have Ow' := Lib.hid (Ow'.out.below hb)
  have X0 := Lib.hid (X0.out.below hb)
  have X1 := Lib.hid (X1.out.below hb)
  have Og := Lib.hid (Og.out.below hb)
  have Og' := Lib.hid (Og'.out.below hb)
  have HB := Lib.hid (below_step HB.out hb)
  have Z10' := hb.size
  try simp only [World.size_alloc] at Z10'
  have Z10 := Lib.hid Z10'
  clear Z10'
  have Y0 := Lib.hid ho
  have EY0 : Hid (∀ k, (Value.slice (some ⟨w9.heap.size, 0, none⟩) l0.length l0.length).ownBlock = some k → w9.heap.size ≤ k ∧ k < w10.heap.size) := fun k e => by have := Y0.out.lt k e; exact this
  clear ho hb
  go_wp2_with fail
  refine (lawEqLetterS _ _ l0 l0 _ _ _ _ X0.out.len Y0.out.len _ (by have := X0.out.len; omega) (by have := Y0.out.len; omega) (X0.out.rd ltEnc_len) (Y0.out.rd ltEnc_len)).mono ?_
  rw [ltsEq_self]
  rintro e w11 ⟨rfl, hb⟩
  have Ow := Lib.hid (Ow.out.below hb)
  have Ow' := Lib.hid (Ow'.out.below hb)
  have X0 := Lib.hid (X0.out.below hb)
  have X1 := Lib.hid (X1.out.below hb)
  have Og := Lib.hid (Og.out.below hb)
  have Og' := Lib.hid (Og'.out.below hb)
  have Y0 := Lib.hid (Y0.out.below hb)
  have HB := Lib.hid (below_step HB.out hb)
  have Z11' := hb.size
  try simp only [World.size_alloc] at Z11'
  have Z11 := Lib.hid Z11'
  clear Z11'
  clear hb
  clear Y0 EY0
  go_wp2_with fail
  refine (lawToStringS A1 l1 _ _ rfl _ (by omega) (Hr1.out.below HB.out)).mono ?_
  try simp only [World.size_alloc]
  rintro e w12 ⟨rfl, ho, hb⟩
  have hb : Below (w11).heap.size (w11) w12 := by first | exact hb | simpa only [World.size_alloc] using hb
  have Ow := Lib.hid (Ow.out.below hb)
  have Ow' := Lib.hid (Ow'.out.below hb)
  have X0 := Lib.hid (X0.out.below hb)
  have X1 := Lib.hid (X1.out.below hb)
  have Og := Lib.hid (Og.out.below hb)
  have Og' := Lib.hid (Og'.out.below hb)
  have HB := Lib.hid (below_step HB.out hb)
  have Z12' := hb.size
  try simp only [World.size_alloc] at Z12'
  have Z12 := Lib.hid Z12'
  clear Z12'
  have Y1 := Lib.hid ho
  have EY1 : Hid (∀ k, (Value.slice (some ⟨w11.heap.size, 0, none⟩) l1.length l1.length).ownBlock = some k → w11.heap.size ≤ k ∧ k < w12.heap.size) := fun k e => by have := Y1.out.lt k e; exact this
  clear ho hb
  go_wp2_with fail
  refine (lawEqStringS _ _ l1 l1 _ _ _ _ X1.out.len Y1.out.len _ (by have := X1.out.len; omega) (by have := Y1.out.len; omega) (X1.out.rd strEnc_len) (Y1.out.rd strEnc_len)).mono ?_
  rw [strsEq_self]
  rintro e w13 ⟨rfl, hb⟩
  have Ow := Lib.hid (Ow.out.below hb)
  have Ow' := Lib.hid (Ow'.out.below hb)
  have X0 := Lib.hid (X0.out.below hb)
  have X1 := Lib.hid (X1.out.below hb)
  have Og := Lib.hid (Og.out.below hb)
  have Og' := Lib.hid (Og'.out.below hb)
  have Y1 := Lib.hid (Y1.out.below hb)
  have HB := Lib.hid (below_step HB.out hb)
  have Z13' := hb.size
  try simp only [World.size_alloc] at Z13'
  have Z13 := Lib.hid Z13'
  clear Z13'
  clear hb
  clear Y1 EY1
  go_wp2_with fail
  refine (lawMarkLetterS _ l0 _ _ (1) _ _ (by omega) (by omega) (by omega) X0.out).mono ?_
  rintro e w14 ⟨rfl, ho, hg⟩
  have Ow := Lib.hid (Ow.out.apartV hg (fun k e e' => by have := EX0.out k e; have := EOw.out k e'; have := Z1.out; have := Z2.out; have := Z3.out; have := Z4.out; have := Z5.out; have := Z6.out; have := Z7.out; have := Z8.out; have := Z9.out; have := Z10.out; have := Z11.out; have := Z12.out; have := Z13.out; omega))
  have Ow' := Lib.hid (Ow'.out.apartV hg (fun k e e' => by have := EX0.out k e; have := EOw'.out k e'; have := Z1.out; have := Z2.out; have := Z3.out; have := Z4.out; have := Z5.out; have := Z6.out; have := Z7.out; have := Z8.out; have := Z9.out; have := Z10.out; have := Z11.out; have := Z12.out; have := Z13.out; omega))
  have X1 := Lib.hid (X1.out.apartV hg (fun k e e' => by have := EX0.out k e; have := EX1.out k e'; have := Z1.out; have := Z2.out; have := Z3.out; have := Z4.out; have := Z5.out; have := Z6.out; have := Z7.out; have := Z8.out; have := Z9.out; have := Z10.out; have := Z11.out; have := Z12.out; have := Z13.out; omega))
  have Og := Lib.hid (Og.out.apartV hg (fun k e e' => by have := EX0.out k e; have := EOg.out k e'; have := Z1.out; have := Z2.out; have := Z3.out; have := Z4.out; have := Z5.out; have := Z6.out; have := Z7.out; have := Z8.out; have := Z9.out; have := Z10.out; have := Z11.out; have := Z12.out; have := Z13.out; omega))
  have Og' := Lib.hid (Og'.out.apartV hg (fun k e e' => by have := EX0.out k e; have := EOg'.out k e'; have := Z1.out; have := Z2.out; have := Z3.out; have := Z4.out; have := Z5.out; have := Z6.out; have := Z7.out; have := Z8.out; have := Z9.out; have := Z10.out; have := Z11.out; have := Z12.out; have := Z13.out; omega))
  have HB := Lib.hid (grown_below_v HB.out hg (fun k e => by have := EX0.out k e; have := Z1.out; have := Z2.out; have := Z3.out; have := Z4.out; have := Z5.out; have := Z6.out; have := Z7.out; have := Z8.out; have := Z9.out; have := Z10.out; have := Z11.out; have := Z12.out; have := Z13.out; omega))
  have Z14' := hg.size
  try simp only [World.size_alloc] at Z14'
  have Z14 := Lib.hid Z14'
  clear Z14'
  have X0 := Lib.hid ho
  clear ho hg 
  go_wp2_with fail
  refine (lawMarkStringS _ l1 _ _ (1 + 2 * l0.length) _ _ (by omega) (by omega) (by omega) X1.out).mono ?_
  rintro e w15 ⟨rfl, ho, hg⟩
  have Ow := Lib.hid (Ow.out.apartV hg (fun k e e' => by have := EX1.out k e; have := EOw.out k e'; have := Z1.out; have := Z2.out; have := Z3.out; have := Z4.out; have := Z5.out; have := Z6.out; have := Z7.out; have := Z8.out; have := Z9.out; have := Z10.out; have := Z11.out; have := Z12.out; have := Z13.out; have := Z14.out; omega))
  have Ow' := Lib.hid (Ow'.out.apartV hg (fun k e e' => by have := EX1.out k e; have := EOw'.out k e'; have := Z1.out; have := Z2.out; have := Z3.out; have := Z4.out; have := Z5.out; have := Z6.out; have := Z7.out; have := Z8.out; have := Z9.out; have := Z10.out; have := Z11.out; have := Z12.out; have := Z13.out; have := Z14.out; omega))
  have X0 := Lib.hid (X0.out.apartV hg (fun k e e' => by have := EX1.out k e; have := EX0.out k e'; have := Z1.out; have := Z2.out; have := Z3.out; have := Z4.out; have := Z5.out; have := Z6.out; have := Z7.out; have := Z8.out; have := Z9.out; have := Z10.out; have := Z11.out; have := Z12.out; have := Z13.out; have := Z14.out; omega))
  have Og := Lib.hid (Og.out.apartV hg (fun k e e' => by have := EX1.out k e; have := EOg.out k e'; have := Z1.out; have := Z2.out; have := Z3.out; have := Z4.out; have := Z5.out; have := Z6.out; have := Z7.out; have := Z8.out; have := Z9.out; have := Z10.out; have := Z11.out; have := Z12.out; have := Z13.out; have := Z14.out; omega))
  have Og' := Lib.hid (Og'.out.apartV hg (fun k e e' => by have := EX1.out k e; have := EOg'.out k e'; have := Z1.out; have := Z2.out; have := Z3.out; have := Z4.out; have := Z5.out; have := Z6.out; have := Z7.out; have := Z8.out; have := Z9.out; have := Z10.out; have := Z11.out; have := Z12.out; have := Z13.out; have := Z14.out; omega))
  have HB := Lib.hid (grown_below_v HB.out hg (fun k e => by have := EX1.out k e; have := Z1.out; have := Z2.out; have := Z3.out; have := Z4.out; have := Z5.out; have := Z6.out; have := Z7.out; have := Z8.out; have := Z9.out; have := Z10.out; have := Z11.out; have := Z12.out; have := Z13.out; have := Z14.out; omega))
  have Z15' := hg.size
  try simp only [World.size_alloc] at Z15'
  have Z15 := Lib.hid Z15'
  clear Z15'
  have X1 := Lib.hid ho
  clear ho hg 
  go_wp2_with fail
  refine (lawEqLetterS _ _ r.f r.f _ _ _ _ Og.out.len Ow.out.len _ (by have := Og.out.len; omega) (by have := Ow.out.len; omega) (Og.out.rd ltEnc_len) (Ow.out.rd ltEnc_len)).mono ?_
  rw [ltsEq_self]
  rintro e w16 ⟨rfl, hb⟩
  have Ow := Lib.hid (Ow.out.below hb)
  have Ow' := Lib.hid (Ow'.out.below hb)
  have X0 := Lib.hid (X0.out.below hb)
  have X1 := Lib.hid (X1.out.below hb)
  have Og := Lib.hid (Og.out.below hb)
  have Og' := Lib.hid (Og'.out.below hb)
  have HB := Lib.hid (below_step HB.out hb)
  have Z16' := hb.size
  try simp only [World.size_alloc] at Z16'
  have Z16 := Lib.hid Z16'
  clear Z16'
  clear hb
  go_wp2_with fail
  refine (lawEqLetterS _ _ r.k r.k _ _ _ _ Og'.out.len Ow'.out.len _ (by have := Og'.out.len; omega) (by have := Ow'.out.len; omega) (Og'.out.rd ltEnc_len) (Ow'.out.rd ltEnc_len)).mono ?_
  rw [ltsEq_self]
  rintro e w17 ⟨rfl, hb⟩
  have Ow := Lib.hid (Ow.out.below hb)
  have Ow' := Lib.hid (Ow'.out.below hb)
  have X0 := Lib.hid (X0.out.below hb)
  have X1 := Lib.hid (X1.out.below hb)
  have Og := Lib.hid (Og.out.below hb)
  have Og' := Lib.hid (Og'.out.below hb)
  have HB := Lib.hid (below_step HB.out hb)
  have Z17' := hb.size
  try simp only [World.size_alloc] at Z17'
  have Z17 := Lib.hid Z17'
  clear Z17'
  clear hb
  have hkg : kg ≤ 1048576 := by have := Og.out.len; omega
  have hkg' : kg' ≤ 1048576 := by have := Og'.out.len; omega
  go_wp2_with fail
  refine (lawMarkLetterS _ r.f _ _ 1 _ _ (by omega) (by omega) (by omega) Og.out).mono ?_
  rintro e w18 ⟨rfl, ho, hg⟩
  have Ow := Lib.hid (Ow.out.apartV hg (fun k e e' => by have := EOg.out k e; have := EOw.out k e'; have := Z1.out; have := Z2.out; have := Z3.out; have := Z4.out; have := Z5.out; have := Z6.out; have := Z7.out; have := Z8.out; have := Z9.out; have := Z10.out; have := Z11.out; have := Z12.out; have := Z13.out; have := Z14.out; have := Z15.out; have := Z16.out; have := Z17.out; omega))
  have Ow' := Lib.hid (Ow'.out.apartV hg (fun k e e' => by have := EOg.out k e; have := EOw'.out k e'; have := Z1.out; have := Z2.out; have := Z3.out; have := Z4.out; have := Z5.out; have := Z6.out; have := Z7.out; have := Z8.out; have := Z9.out; have := Z10.out; have := Z11.out; have := Z12.out; have := Z13.out; have := Z14.out; have := Z15.out; have := Z16.out; have := Z17.out; omega))
  have X0 := Lib.hid (X0.out.apartV hg (fun k e e' => by have := EOg.out k e; have := EX0.out k e'; have := Z1.out; have := Z2.out; have := Z3.out; have := Z4.out; have := Z5.out; have := Z6.out; have := Z7.out; have := Z8.out; have := Z9.out; have := Z10.out; have := Z11.out; have := Z12.out; have := Z13.out; have := Z14.out; have := Z15.out; have := Z16.out; have := Z17.out; omega))
  have X1 := Lib.hid (X1.out.apartV hg (fun k e e' => by have := EOg.out k e; have := EX1.out k e'; have := Z1.out; have := Z2.out; have := Z3.out; have := Z4.out; have := Z5.out; have := Z6.out; have := Z7.out; have := Z8.out; have := Z9.out; have := Z10.out; have := Z11.out; have := Z12.out; have := Z13.out; have := Z14.out; have := Z15.out; have := Z16.out; have := Z17.out; omega))
  have Og' := Lib.hid (Og'.out.apartV hg (fun k e e' => Dg.out k e e'))
  have HB := Lib.hid (grown_below_v HB.out hg (fun k e => by have := EOg.out k e; have := Z1.out; have := Z2.out; have := Z3.out; have := Z4.out; have := Z5.out; have := Z6.out; have := Z7.out; have := Z8.out; have := Z9.out; have := Z10.out; have := Z11.out; have := Z12.out; have := Z13.out; have := Z14.out; have := Z15.out; have := Z16.out; have := Z17.out; omega))
  have Z18' := hg.size
  try simp only [World.size_alloc] at Z18'
  have Z18 := Lib.hid Z18'
  clear Z18'
  have Og := Lib.hid ho
  clear ho hg
  go_wp2_with fail
  refine (lawMarkLetterS _ r.k _ _ (1 + 2 * kg) _ _ (by omega) (by omega) (by omega) Og'.out).mono ?_
  rintro e w19 ⟨rfl, ho, hg⟩
  have Ow := Lib.hid (Ow.out.apartV hg (fun k e e' => by have := EOg'.out k e; have := EOw.out k e'; have := Z1.out; have := Z2.out; have := Z3.out; have := Z4.out; have := Z5.out; have := Z6.out; have := Z7.out; have := Z8.out; have := Z9.out; have := Z10.out; have := Z11.out; have := Z12.out; have := Z13.out; have := Z14.out; have := Z15.out; have := Z16.out; have := Z17.out; have := Z18.out; omega))
  have Ow' := Lib.hid (Ow'.out.apartV hg (fun k e e' => by have := EOg'.out k e; have := EOw'.out k e'; have := Z1.out; have := Z2.out; have := Z3.out; have := Z4.out; have := Z5.out; have := Z6.out; have := Z7.out; have := Z8.out; have := Z9.out; have := Z10.out; have := Z11.out; have := Z12.out; have := Z13.out; have := Z14.out; have := Z15.out; have := Z16.out; have := Z17.out; have := Z18.out; omega))
  have X0 := Lib.hid (X0.out.apartV hg (fun k e e' => by have := EOg'.out k e; have := EX0.out k e'; have := Z1.out; have := Z2.out; have := Z3.out; have := Z4.out; have := Z5.out; have := Z6.out; have := Z7.out; have := Z8.out; have := Z9.out; have := Z10.out; have := Z11.out; have := Z12.out; have := Z13.out; have := Z14.out; have := Z15.out; have := Z16.out; have := Z17.out; have := Z18.out; omega))
  have X1 := Lib.hid (X1.out.apartV hg (fun k e e' => by have := EOg'.out k e; have := EX1.out k e'; have := Z1.out; have := Z2.out; have := Z3.out; have := Z4.out; have := Z5.out; have := Z6.out; have := Z7.out; have := Z8.out; have := Z9.out; have := Z10.out; have := Z11.out; have := Z12.out; have := Z13.out; have := Z14.out; have := Z15.out; have := Z16.out; have := Z17.out; have := Z18.out; omega))
  have Og := Lib.hid (Og.out.apartV hg (fun k e e' => Dg.out k e' e))
  have HB := Lib.hid (grown_below_v HB.out hg (fun k e => by have := EOg'.out k e; have := Z1.out; have := Z2.out; have := Z3.out; have := Z4.out; have := Z5.out; have := Z6.out; have := Z7.out; have := Z8.out; have := Z9.out; have := Z10.out; have := Z11.out; have := Z12.out; have := Z13.out; have := Z14.out; have := Z15.out; have := Z16.out; have := Z17.out; have := Z18.out; omega))
  have Z19' := hg.size
  try simp only [World.size_alloc] at Z19'
  have Z19 := Lib.hid Z19'
  clear Z19'
  have Og' := Lib.hid ho
  clear ho hg
  go_wp2_with fail
  refine (lawHeldLetterS _ _ _ 1 _ (by omega) (by omega) (by omega) (Og.out.rd ltEnc_len)).mono ?_
  rintro e w20 ⟨rfl, hb⟩
  have Ow := Lib.hid (Ow.out.below hb)
  have Ow' := Lib.hid (Ow'.out.below hb)
  have X0 := Lib.hid (X0.out.below hb)
  have X1 := Lib.hid (X1.out.below hb)
  have Og := Lib.hid (Og.out.below hb)
  have Og' := Lib.hid (Og'.out.below hb)
  have HB := Lib.hid (below_step HB.out hb)
  have Z20' := hb.size
  try simp only [World.size_alloc] at Z20'
  have Z20 := Lib.hid Z20'
  clear Z20'
  clear hb
  go_wp2_with fail
  refine (lawHeldLetterS _ _ _ (1 + 2 * kg) _ (by omega) (by omega) (by omega) (Og'.out.rd ltEnc_len)).mono ?_
  rintro e w21 ⟨rfl, hb⟩
  have Ow := Lib.hid (Ow.out.below hb)
  have Ow' := Lib.hid (Ow'.out.below hb)
  have X0 := Lib.hid (X0.out.below hb)
  have X1 := Lib.hid (X1.out.below hb)
  have Og := Lib.hid (Og.out.below hb)
  have Og' := Lib.hid (Og'.out.below hb)
  have HB := Lib.hid (below_step HB.out hb)
  have Z21' := hb.size
  try simp only [World.size_alloc] at Z21'
  have Z21 := Lib.hid Z21'
  clear Z21'
  clear hb
  go_wp2_with fail
  refine (lawToLetterS A0 l0 _ _ rfl _ (by omega) (Hr0.out.below HB.out)).mono ?_
  try simp only [World.size_alloc]
  rintro e w22 ⟨rfl, ho, hb⟩
  have hb : Below (w21).heap.size (w21) w22 := by first | exact hb | simpa only [World.size_alloc] using hb
  have Ow := Lib.hid (Ow.out.below hb)
  have Ow' := Lib.hid (Ow'.out.below hb)
  have X0 := Lib.hid (X0.out.below hb)
  have X1 := Lib.hid (X1.out.below hb)
  have Og := Lib.hid (Og.out.below hb)
  have Og' := Lib.hid (Og'.out.below hb)
  have HB := Lib.hid (below_step HB.out hb)
  have Z22' := hb.size
  try simp only [World.size_alloc] at Z22'
  have Z22 := Lib.hid Z22'
  clear Z22'
  have S0 := Lib.hid ho
  have ES0 : Hid (∀ k, (Value.slice (some ⟨w21.heap.size, 0, none⟩) l0.length l0.length).ownBlock = some k → w21.heap.size ≤ k ∧ k < w22.heap.size) := fun k e => by have := S0.out.lt k e; exact this
  clear ho hb
  go_wp2_with fail
  refine (lawToStringS A1 l1 _ _ rfl _ (by omega) (Hr1.out.below HB.out)).mono ?_
  try simp only [World.size_alloc]
  rintro e w23 ⟨rfl, ho, hb⟩
  have hb : Below (w22).heap.size (w22) w23 := by first | exact hb | simpa only [World.size_alloc] using hb
  have Ow := Lib.hid (Ow.out.below hb)
  have Ow' := Lib.hid (Ow'.out.below hb)
  have X0 := Lib.hid (X0.out.below hb)
  have X1 := Lib.hid (X1.out.below hb)
  have Og := Lib.hid (Og.out.below hb)
  have Og' := Lib.hid (Og'.out.below hb)
  have S0 := Lib.hid (S0.out.below hb)
  have HB := Lib.hid (below_step HB.out hb)
  have Z23' := hb.size
  try simp only [World.size_alloc] at Z23'
  have Z23 := Lib.hid Z23'
  clear Z23'
  have S1 := Lib.hid ho
  have ES1 : Hid (∀ k, (Value.slice (some ⟨w22.heap.size, 0, none⟩) l1.length l1.length).ownBlock = some k → w22.heap.size ≤ k ∧ k < w23.heap.size) := fun k e => by have := S1.out.lt k e; exact this
  clear ho hb
  go_wp2_with fail
  refine (implHoldBatch _ _ l0 l1 _ _ _ _ rfl rfl (Nat.le_refl _) _ (by omega) (by omega) Ha0.out Ha1.out (S0.out.rd ltEnc_len) (S1.out.rd strEnc_len)).mono ?_
  rw [Hv.out]
  rintro e w24 ⟨Ah, kh, ch, Ah', kh', ch', rfl, ho, ho', hd, hb⟩
  try simp only [World.size_alloc] at ho ho'
  have Ow := Lib.hid (Ow.out.below hb)
  have Ow' := Lib.hid (Ow'.out.below hb)
  have X0 := Lib.hid (X0.out.below hb)
  have X1 := Lib.hid (X1.out.below hb)
  have Og := Lib.hid (Og.out.below hb)
  have Og' := Lib.hid (Og'.out.below hb)
  have S0 := Lib.hid (S0.out.below hb)
  have S1 := Lib.hid (S1.out.below hb)
  have HB := Lib.hid (below_step HB.out hb)
  have Z24' := hb.size
  try simp only [World.size_alloc] at Z24'
  have Z24 := Lib.hid Z24'
  clear Z24'
  have Oh := Lib.hid ho
  have EOh : Hid (∀ k, (Value.slice Ah kh ch).ownBlock = some k → w23.heap.size ≤ k ∧ k < w24.heap.size) := fun k e => by have := Oh.out.lt k e; exact this
  have Oh' := Lib.hid ho'
  have EOh' : Hid (∀ k, (Value.slice Ah' kh' ch').ownBlock = some k → w23.heap.size ≤ k ∧ k < w24.heap.size) := fun k e => by have := Oh'.out.lt k e; exact this
  have Dh := Lib.hid hd
  clear ho ho' hd hb
  go_wp2_with fail
  refine (lawEqLetterS _ _ r.f r.f _ _ _ _ Oh.out.len Ow.out.len _ (by have := Oh.out.len; omega) (by have := Ow.out.len; omega) (Oh.out.rd ltEnc_len) (Ow.out.rd ltEnc_len)).mono ?_
  rw [ltsEq_self]
  rintro e w25 ⟨rfl, hb⟩
  have Ow := Lib.hid (Ow.out.below hb)
  have Ow' := Lib.hid (Ow'.out.below hb)
  have X0 := Lib.hid (X0.out.below hb)
  have X1 := Lib.hid (X1.out.below hb)
  have Og := Lib.hid (Og.out.below hb)
  have Og' := Lib.hid (Og'.out.below hb)
  have S0 := Lib.hid (S0.out.below hb)
  have S1 := Lib.hid (S1.out.below hb)
  have Oh := Lib.hid (Oh.out.below hb)
  have Oh' := Lib.hid (Oh'.out.below hb)
  have HB := Lib.hid (below_step HB.out hb)
  have Z25' := hb.size
  try simp only [World.size_alloc] at Z25'
  have Z25 := Lib.hid Z25'
  clear Z25'
  clear hb
  go_wp2_with fail
  refine (lawEqLetterS _ _ r.k r.k _ _ _ _ Oh'.out.len Ow'.out.len _ (by have := Oh'.out.len; omega) (by have := Ow'.out.len; omega) (Oh'.out.rd ltEnc_len) (Ow'.out.rd ltEnc_len)).mono ?_
  rw [ltsEq_self]
  rintro e w26 ⟨rfl, hb⟩
  have Ow := Lib.hid (Ow.out.below hb)
  have Ow' := Lib.hid (Ow'.out.below hb)
  have X0 := Lib.hid (X0.out.below hb)
  have X1 := Lib.hid (X1.out.below hb)
  have Og := Lib.hid (Og.out.below hb)
  have Og' := Lib.hid (Og'.out.below hb)
  have S0 := Lib.hid (S0.out.below hb)
  have S1 := Lib.hid (S1.out.below hb)
  have Oh := Lib.hid (Oh.out.below hb)
  have Oh' := Lib.hid (Oh'.out.below hb)
  have HB := Lib.hid (below_step HB.out hb)
  have Z26' := hb.size
  try simp only [World.size_alloc] at Z26'
  have Z26 := Lib.hid Z26'
  clear Z26'
  clear hb
  go_wp2_with fail
  refine (lawHeldLetterS _ _ _ 1 _ (by omega) (by omega) (by omega) (Og.out.rd ltEnc_len)).mono ?_
  rintro e w27 ⟨rfl, hb⟩
  have Ow := Lib.hid (Ow.out.below hb)
  have Ow' := Lib.hid (Ow'.out.below hb)
  have X0 := Lib.hid (X0.out.below hb)
  have X1 := Lib.hid (X1.out.below hb)
  have Og := Lib.hid (Og.out.below hb)
  have Og' := Lib.hid (Og'.out.below hb)
  have S0 := Lib.hid (S0.out.below hb)
  have S1 := Lib.hid (S1.out.below hb)
  have Oh := Lib.hid (Oh.out.below hb)
  have Oh' := Lib.hid (Oh'.out.below hb)
  have HB := Lib.hid (below_step HB.out hb)
  have Z27' := hb.size
  try simp only [World.size_alloc] at Z27'
  have Z27 := Lib.hid Z27'
  clear Z27'
  clear hb
  go_wp2_with fail
  refine (lawHeldLetterS _ _ _ (1 + 2 * kg) _ (by omega) (by omega) (by omega) (Og'.out.rd ltEnc_len)).mono ?_
  rintro e w28 ⟨rfl, hb⟩
  have Ow := Lib.hid (Ow.out.below hb)
  have Ow' := Lib.hid (Ow'.out.below hb)
  have X0 := Lib.hid (X0.out.below hb)
  have X1 := Lib.hid (X1.out.below hb)
  have Og := Lib.hid (Og.out.below hb)
  have Og' := Lib.hid (Og'.out.below hb)
  have S0 := Lib.hid (S0.out.below hb)
  have S1 := Lib.hid (S1.out.below hb)
  have Oh := Lib.hid (Oh.out.below hb)
  have Oh' := Lib.hid (Oh'.out.below hb)
  have HB := Lib.hid (below_step HB.out hb)
  have Z28' := hb.size
  try simp only [World.size_alloc] at Z28'
  have Z28 := Lib.hid Z28'
  clear Z28'
  clear hb
  go_wp2
  go_ret
  exact ⟨rfl, HB.out⟩
end Go.Proofs.Ytkpigdohgmhlkaa
