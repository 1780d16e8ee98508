/-
  Numbers read and written, letters and plans in texts, plain. No function of the program is named here.
-/
import Derived.Test.YtjibjoapbjojlaaPrM
import Derived.Test.YtjibjoapbjojlaaPlQ
namespace Go.Proofs.Ytjibjoapbjojlaa
open Go.RowKit

theorem snoc_of {k : Nat} {ds : List UInt8} (h : ds.length = k + 1) : ∃ q d, ds = q ++ [d] ∧ q.length = k := by
  refine ⟨ds.take k, ds[k]'(by omega), ?_, by rw [List.length_take]; omega⟩
  have h1 := List.take_append_getElem (l := ds) (i := k) (by omega)
  rw [h1, List.take_of_length_le (by omega)]
/-- The number with some digits. -/
def digVal : List UInt8 → Int := List.foldl (fun n d => n * 10 + ((d.toNat : Int) - 48)) 0
theorem digVal_snoc (ds : List UInt8) (d : UInt8) : digVal (ds ++ [d]) = digVal ds * 10 + ((d.toNat : Int) - 48) := by
  unfold digVal; rw [List.foldl_append]; rfl
theorem dig_iff {d : UInt8} : isDig d = true ↔ 48 ≤ d.toNat ∧ d.toNat ≤ 57 := by unfold isDig; simp; omega
theorem digVal_bd : ∀ (k : Nat) (ds : List UInt8), ds.length = k → (∀ d ∈ ds, isDig d = true) → 0 ≤ digVal ds ∧ digVal ds < 10 ^ k
  | 0, ds, hk, _ => by rw [List.eq_nil_of_length_eq_zero hk]; exact ⟨by decide, by decide⟩
  | k + 1, ds, hk, h => by
    obtain ⟨q, d, rfl, hq⟩ := snoc_of hk
    have ih := digVal_bd k q hq (fun x hx => h x (by simp [hx]))
    have hd := dig_iff.1 (h d (by simp))
    rw [digVal_snoc, Int.pow_succ]
    omega
/-- Is it a number as numbers are written? -/
def numOk (s : List UInt8) : Bool :=
  if s.head? = some 45 then decide (1 ≤ s.tail.length ∧ s.tail.length ≤ 17) && s.tail.all isDig && !decide (s.tail.head? = some 48)
  else decide (1 ≤ s.length ∧ s.length ≤ 17) && s.all isDig && !(decide (s.head? = some 48) && decide (1 < s.length))
def numVal (s : List UInt8) : Int := if numOk s then (if s.head? = some 45 then - digVal s.tail else digVal s) else 0
theorem numVal_bd (s : List UInt8) : -100000000000000000 < numVal s ∧ numVal s < 100000000000000000 := by
  have hp : ∀ ds : List UInt8, ds.length ≤ 17 → (∀ d ∈ ds, isDig d = true) → 0 ≤ digVal ds ∧ digVal ds < 100000000000000000 := fun ds hl hd => by
    obtain ⟨h1, h2⟩ := digVal_bd _ ds rfl hd
    refine ⟨h1, Int.lt_of_lt_of_le h2 ?_⟩
    have : (10 : Int) ^ ds.length ≤ 10 ^ 17 := by
      have := Nat.pow_le_pow_right (n := 10) (by decide) hl
      exact_mod_cast this
    exact this
  unfold numVal
  split
  · rename_i h
    unfold numOk at h
    split at h
    · rename_i e
      rw [if_pos e]
      simp only [Bool.and_eq_true, decide_eq_true_eq, List.all_eq_true] at h
      have := hp s.tail h.1.1.2 h.1.2
      omega
    · rename_i e
      rw [if_neg e]
      simp only [Bool.and_eq_true, decide_eq_true_eq, List.all_eq_true] at h
      have := hp s h.1.1.2 h.1.2
      omega
  · omega
theorem dec_ge {u : Nat} (h : 10 ≤ u) : Lib.decDigits u = Lib.decDigits (u / 10) ++ [UInt8.ofNat (48 + u % 10)] := by
  rw [Lib.decDigits, dif_neg (by omega)]
theorem dec_lt {u : Nat} (h : u < 10) : Lib.decDigits u = [UInt8.ofNat (48 + u)] := Lib.decDigits_one h
theorem byte_nat {k : Nat} (h : k < 256) : (UInt8.ofNat k).toNat = k := by simp; omega
theorem dec_ne (u : Nat) : Lib.decDigits u ≠ [] := by
  by_cases h : u < 10
  · rw [dec_lt h]; simp
  · rw [dec_ge (by omega)]; simp
theorem dec_facts : ∀ (k u : Nat), u < 10 ^ (k + 1) → (∀ d ∈ Lib.decDigits u, isDig d = true) ∧ digVal (Lib.decDigits u) = u ∧ 1 ≤ (Lib.decDigits u).length ∧ (Lib.decDigits u).length ≤ k + 1 ∧ (1 < (Lib.decDigits u).length → (Lib.decDigits u).head? ≠ some 48) ∧ (1 ≤ u → (Lib.decDigits u).head? ≠ some 48)
  | 0, u, hu => by
    rw [dec_lt hu]
    have hb := byte_nat (k := 48 + u) (by omega)
    refine ⟨fun d hd => ?_, ?_, by simp, by simp, by simp, fun h1 e => ?_⟩
    · have hd := List.mem_singleton.1 hd
      subst hd; rw [dig_iff, hb]; omega
    · show (0 : Int) * 10 + (((UInt8.ofNat (48 + u)).toNat : Int) - 48) = u
      rw [hb]; omega
    · have e3 : UInt8.ofNat (48 + u) = 48 := Option.some.inj e
      have := congrArg UInt8.toNat e3
      rw [hb] at this
      have e2 : (48 : UInt8).toNat = 48 := rfl
      omega
  | k + 1, u, hu => by
    by_cases h : u < 10
    · obtain ⟨h1, h2, h3, h4, h5, h6⟩ := dec_facts 0 u (by simpa using h)
      exact ⟨h1, h2, h3, by omega, h5, h6⟩
    · rw [dec_ge (by omega)]
      obtain ⟨h1, h2, h3, h4, h5, h6⟩ := dec_facts k (u / 10) (by
        rw [Nat.pow_succ] at hu; omega)
      have hb := byte_nat (k := 48 + u % 10) (by omega)
      have hh : (Lib.decDigits (u / 10) ++ [UInt8.ofNat (48 + u % 10)]).head? = (Lib.decDigits (u / 10)).head? := by
        cases hc : Lib.decDigits (u / 10) with
        | nil => exact absurd hc (dec_ne _)
        | cons x r => rfl
      refine ⟨fun d hd => ?_, ?_, by simp, by simp; omega, fun _ => by rw [hh]; exact h6 (by omega), fun _ => by rw [hh]; exact h6 (by omega)⟩
      · rcases List.mem_append.1 hd with hd | hd
        · exact h1 d hd
        · have hd := List.mem_singleton.1 hd
          subst hd; rw [dig_iff, hb]; omega
      · rw [digVal_snoc, h2, hb]; omega
/-- Digits are those of their number. -/
theorem dec_of : ∀ (k : Nat) (ds : List UInt8), ds.length = k + 1 → (∀ d ∈ ds, isDig d = true) → (1 < ds.length → ds.head? ≠ some 48) → Lib.decDigits (digVal ds).toNat = ds ∧ (ds.head? ≠ some 48 → 1 ≤ digVal ds)
  | 0, ds, hl, hd, _ => by
    obtain ⟨d, rfl⟩ : ∃ d, ds = [d] := by
      cases ds with
      | nil => simp at hl
      | cons x r =>
        obtain rfl : r = [] := List.eq_nil_of_length_eq_zero (by simpa using hl)
        exact ⟨x, rfl⟩
    have h1 := dig_iff.1 (hd d (by simp))
    have e : digVal [d] = (d.toNat : Int) - 48 := by show (0 : Int) * 10 + _ = _; omega
    rw [e]
    have e2 : ((d.toNat : Int) - 48).toNat = d.toNat - 48 := by omega
    refine ⟨?_, fun hne => ?_⟩
    · rw [e2, dec_lt (by omega), show 48 + (d.toNat - 48) = d.toNat from by omega]
      simp
    · have : d.toNat ≠ 48 := fun e => hne (by
        have : d = 48 := UInt8.toNat_inj.1 e
        rw [this]; rfl)
      omega
  | k + 1, ds, hl, hd, h0 => by
    obtain ⟨q, d, rfl, hq⟩ := snoc_of hl
    have hh : (q ++ [d]).head? = q.head? := by
      cases q with
      | nil => simp at hq
      | cons x r => rfl
    rw [hh] at h0
    have h00 : q.head? ≠ some 48 := h0 (by simp; omega)
    obtain ⟨h1, h2⟩ := dec_of k q hq (fun x hx => hd x (by simp [hx])) (fun _ => h00)
    have h2 := h2 h00
    have h3 := dig_iff.1 (hd d (by simp))
    rw [digVal_snoc]
    refine ⟨?_, fun _ => by omega⟩
    obtain ⟨v, hv⟩ := Int.eq_ofNat_of_zero_le (show 0 ≤ digVal q by omega)
    rw [hv] at h1 h2 ⊢
    have e : ((v : Int) * 10 + ((d.toNat : Int) - 48)).toNat = v * 10 + (d.toNat - 48) := by omega
    rw [e, dec_ge (by omega), show (v * 10 + (d.toNat - 48)) / 10 = v from by omega, show 48 + (v * 10 + (d.toNat - 48)) % 10 = d.toNat from by omega]
    rw [show ((v : Nat) : Int).toNat = v from by omega] at h1
    rw [h1]; simp
/-- A number is written so. -/
def decS (n : Int) : Str := strOf (Lib.itoa n)
theorem decS_nat (u : Nat) : decS (u : Int) = strOf (Lib.decDigits u) := by unfold decS Lib.itoa; rw [if_neg (by omega)]; simp
theorem num_dec {u : Nat} (h : u < 10 ^ 17) : numOk (Lib.decDigits u) = true ∧ numVal (Lib.decDigits u) = u := by
  obtain ⟨h1, h2, h3, h4, h5, h6⟩ := dec_facts 16 u h
  have hne : ¬ (Lib.decDigits u).head? = some 45 := by
    intro e
    cases hc : Lib.decDigits u with
    | nil => exact dec_ne u hc
    | cons x r =>
      rw [hc] at e h1
      simp at e
      subst e
      have := h1 45 (by simp)
      cases this
  have hok : numOk (Lib.decDigits u) = true := by
    unfold numOk
    rw [if_neg hne]
    simp only [Bool.and_eq_true, decide_eq_true_eq, List.all_eq_true, Bool.not_eq_true', Bool.and_eq_false_iff, decide_eq_false_iff_not]
    refine ⟨⟨⟨h3, h4⟩, h1⟩, ?_⟩
    by_cases hl : 1 < (Lib.decDigits u).length
    · exact .inl (h5 hl)
    · exact .inr hl
  refine ⟨hok, ?_⟩
  unfold numVal
  rw [if_pos hok, if_neg hne, h2]
theorem dec_num {s : List UInt8} (h : numOk s = true) (h0 : 0 ≤ numVal s) : Lib.itoa (numVal s) = s := by
  unfold numVal at h0 ⊢
  rw [if_pos h] at h0 ⊢
  unfold numOk at h
  split at h
  · rename_i e
    rw [if_pos e] at h0 ⊢
    simp only [Bool.and_eq_true, decide_eq_true_eq, List.all_eq_true, Bool.not_eq_true', decide_eq_false_iff_not] at h
    obtain ⟨k, hk⟩ : ∃ k, s.tail.length = k + 1 := ⟨s.tail.length - 1, by omega⟩
    have := (dec_of k s.tail hk h.1.2 (fun _ => h.2)).2 h.2
    omega
  · rename_i e
    rw [if_neg e] at h0 ⊢
    simp only [Bool.and_eq_true, decide_eq_true_eq, List.all_eq_true, Bool.not_eq_true', Bool.and_eq_false_iff, decide_eq_false_iff_not] at h
    obtain ⟨k, hk⟩ : ∃ k, s.length = k + 1 := ⟨s.length - 1, by omega⟩
    have := (dec_of k s hk h.1.2 (fun hl => by
      rcases h.2 with h2 | h2
      · exact h2
      · exact absurd hl h2)).1
    unfold Lib.itoa
    rw [if_neg (by omega), this]

/-! ### Letters -/
def cCol : Str := ⟨#[58]⟩
def ltPiece (x : Lt) : Str := decS x.1 ++ cCol ++ x.2
def fmtB (l : List Lt) : Str := if batchOk l then (if l = [] then cDash else joinL (l.map ltPiece)) else ByteArray.empty
def ltOfS (s : Str) : Lt := (numVal (befB 58 s).data.toList, aftB 58 s)
open Classical in
noncomputable def parseLt (t : Str) : List Lt × Bool :=
  if t = cDash then ([], true)
  else if (parts t).length ≤ 60 ∧ (∀ p ∈ parts t, 0 ≤ findB 58 p) ∧ fmtB ((parts t).map ltOfS) = t then ((parts t).map ltOfS, true) else ([], false)
theorem parseLt_dash : parseLt cDash = ([], true) := by unfold parseLt; rw [if_pos rfl]
theorem parseLt_no {t p : Str} (ht : t ≠ cDash) (hp : p ∈ parts t) (h : findB 58 p < 0) : parseLt t = ([], false) := by
  unfold parseLt
  rw [if_neg ht, if_neg]
  rintro ⟨-, h2, -⟩
  have := h2 p hp
  omega
theorem parseLt_long {t : Str} (ht : t ≠ cDash) (h : 60 < (parts t).length) : parseLt t = ([], false) := by
  unfold parseLt
  rw [if_neg ht, if_neg]
  rintro ⟨h1, -⟩
  omega
theorem batch_id {l : List Lt} (h : batchOk l = true) {x : Lt} (hx : x ∈ l) : 1 ≤ x.1 ∧ x.1 ≤ 9999 ∧ codeOk x.2 = true := by
  obtain ⟨i, hi, rfl⟩ := List.getElem_of_mem hx
  have := ((batchOk_iff l).1 h).2 i hi
  rw [ltOkAt_eq (List.getElem?_eq_getElem hi)] at this
  simp only [Bool.and_eq_true, decide_eq_true_eq] at this
  exact ⟨this.1.1.1, this.1.1.2, this.1.2⟩
theorem parseLt_num {t p : Str} (ht : t ≠ cDash) (hp : p ∈ parts t) (h : numOk (befB 58 p).data.toList = false) : parseLt t = ([], false) := by
  unfold parseLt
  rw [if_neg ht, if_neg]
  rintro ⟨h1, h2, h3⟩
  have hb : batchOk ((parts t).map ltOfS) = false := by
    cases hk : batchOk ((parts t).map ltOfS)
    · rfl
    · have := (batch_id hk (List.mem_map.2 ⟨p, hp, rfl⟩)).1
      unfold ltOfS numVal at this
      rw [h] at this
      simp at this
  unfold fmtB at h3
  rw [hb] at h3
  exact (parts_dash (c := 58) (by decide) h2).2 h3.symm
theorem parseLt_all {t : Str} (ht : t ≠ cDash) (h1 : (parts t).length ≤ 60) (h2 : ∀ p ∈ parts t, 0 ≤ findB 58 p) : parseLt t = (open Classical in if fmtB ((parts t).map ltOfS) = t then ((parts t).map ltOfS, true) else ([], false)) := by
  unfold parseLt
  rw [if_neg ht]
  by_cases h : fmtB ((parts t).map ltOfS) = t
  · rw [if_pos ⟨h1, h2, h⟩, if_pos h]
  · rw [if_neg (fun e => h e.2.2), if_neg h]
open Classical in
theorem parseLt_spec {t : Str} (ht : t ≠ cDash) (h : ∀ p ∈ (parts t).take 61, 0 ≤ findB 58 p) :
    (if fmtB (((parts t).take 61).map ltOfS) = t then (((parts t).take 61).map ltOfS, true) else ([], false)) = parseLt t := by
  by_cases hl : (parts t).length ≤ 60
  · rw [List.take_of_length_le (by omega)] at h ⊢
    rw [parseLt_all ht hl h]
  · rw [parseLt_long ht (by omega), if_neg]
    intro e
    unfold fmtB at e
    rw [if_neg (by rw [batchOk_long (by rw [List.length_map, List.length_take]; omega)]; decide)] at e
    subst e
    exact hl (by decide)
theorem ltOfS_self {x : Lt} (h0 : 1 ≤ x.1) (h1 : x.1 ≤ 9999) : 0 ≤ findB 58 (ltPiece x) ∧ ltOfS (ltPiece x) = x ∧ numOk (befB 58 (ltPiece x)).data.toList = true := by
  obtain ⟨u, hu⟩ := Int.eq_ofNat_of_zero_le (show 0 ≤ x.1 by omega)
  have hu4 : u < 10 ^ (3 + 1) := by omega
  have hf := dec_facts 3 u hu4
  have e : (ltPiece x).data.toList = Lib.decDigits u ++ 58 :: x.2.data.toList := by
    unfold ltPiece
    rw [hu, decS_nat]
    simp [cCol, strOf]
  obtain ⟨h2, h3, h4⟩ := findB_of e (fun hm => by have := hf.1 58 hm; cases this)
  have hn := num_dec (u := u) (by omega)
  refine ⟨by rw [h2]; omega, ?_, by rw [h3, strOf_data]; exact hn.1⟩
  unfold ltOfS
  rw [h3, h4, strOf_data, strOf_self, hn.2, ← hu]
theorem parts_fmtB {l : List Lt} (h : batchOk l = true) (h0 : l ≠ []) : parts (fmtB l) = l.map ltPiece := by
  unfold fmtB
  rw [if_pos h, if_neg h0]
  refine parts_of _ (by simpa using h0) ?_
  intro p hp
  obtain ⟨x, hx, rfl⟩ := List.mem_map.1 hp
  obtain ⟨h1, h2, h3⟩ := batch_id h hx
  obtain ⟨u, hu⟩ := Int.eq_ofNat_of_zero_le (show 0 ≤ x.1 by omega)
  have hf := dec_facts 3 u (by omega)
  unfold ltPiece
  rw [hu, decS_nat]
  have n1 : ¬ (32 : UInt8) ∈ Lib.decDigits u := fun hm => by have := hf.1 32 hm; cases this
  have n2 := digs_no h3 (c := 32) rfl
  simp only [cCol, ByteArray.data_append, Array.toList_append, List.mem_append, not_or, strOf_data]
  exact ⟨⟨n1, by decide⟩, n2⟩
/-- A text of letters is parsed. -/
theorem parse_fmtB {l : List Lt} (h : batchOk l = true) : parseLt (fmtB l) = (l, true) := by
  by_cases h0 : l = []
  · subst h0
    have : fmtB [] = cDash := by unfold fmtB; rw [if_pos h, if_pos rfl]
    rw [this, parseLt_dash]
  · have hp := parts_fmtB h h0
    have hx := fun x (hx : x ∈ l) => batch_id h hx
    have hf : ∀ p ∈ parts (fmtB l), 0 ≤ findB 58 p := by
      rw [hp]
      intro p hq
      obtain ⟨x, hxm, rfl⟩ := List.mem_map.1 hq
      exact (ltOfS_self (hx x hxm).1 (hx x hxm).2.1).1
    have hm : (parts (fmtB l)).map ltOfS = l := by
      rw [hp, List.map_map]
      conv => rhs; rw [← List.map_id l]
      exact List.map_congr_left fun x hxm => (ltOfS_self (hx x hxm).1 (hx x hxm).2.1).2.1
    rw [parseLt_all (parts_dash (by decide) hf).1 (by rw [hp, List.length_map]; exact ((batchOk_iff l).1 h).1) hf, hm, if_pos rfl]
theorem fmt_parseLt {t : Str} {l : List Lt} (h : parseLt t = (l, true)) : fmtB l = t := by
  unfold parseLt at h
  split at h
  · rename_i e
    injection h with h1 _
    subst h1 e
    rfl
  · split at h
    · rename_i hk
      injection h with h1 _
      subst h1
      exact hk.2.2
    · injection h with _ h2; cases h2

/-! ### Plans -/
def fmtP (b p : Int) (l : List Str) : Str := if planOk b p l then decS b ++ cSp ++ decS p ++ cSp ++ joinL l else ByteArray.empty
def plOf (ps : List Str) : Int × Int × List Str := (numVal (ps.getD 0 ByteArray.empty).data.toList, numVal (ps.getD 1 ByteArray.empty).data.toList, ps.drop 2)
open Classical in
noncomputable def parsePl (t : Str) : (Int × Int × List Str) × Bool :=
  if 3 ≤ (parts t).length ∧ fmtP (plOf (parts t)).1 (plOf (parts t)).2.1 (plOf (parts t)).2.2 = t then (plOf (parts t), true) else ((0, 0, []), false)
theorem cds_code {l : List Str} (h : cdsOk l = true) {x : Str} (hx : x ∈ l) : codeOk x = true := by
  obtain ⟨i, hi, rfl⟩ := List.getElem_of_mem hx
  have := (cdsOk_iff l).1 h i hi
  rw [cdOkAt_eq (List.getElem?_eq_getElem hi)] at this
  simp only [Bool.and_eq_true] at this
  exact this.1
theorem joinL_cons (x : Str) {r : List Str} (h : r ≠ []) : joinL (x :: r) = x ++ cSp ++ joinL r := by
  refine str_eq' ?_
  rw [joinL_data, List.map_cons, join_two _ _ (by simpa using h), ← joinL_data]
  simp [cSp]
theorem fmtP_join {b p : Int} {l : List Str} (h : planOk b p l = true) : fmtP b p l = joinL (decS b :: decS p :: l) := by
  have hp := planOk_parts h
  have hne : l ≠ [] := by rintro rfl; have := hp.2.2.1.1; simp at this
  unfold fmtP
  rw [if_pos h, joinL_cons _ (by simp), joinL_cons _ hne]
  refine str_eq' ?_
  simp
theorem parts_fmtP {b p : Int} {l : List Str} (h : planOk b p l = true) : parts (fmtP b p l) = decS b :: decS p :: l := by
  have hp := planOk_parts h
  rw [fmtP_join h]
  have hd : ∀ u : Nat, u < 100 → ¬ (32 : UInt8) ∈ (decS (u : Int)).data.toList := fun u hu hm => by
    rw [decS_nat, strOf_data] at hm
    have := (dec_facts 1 u (by omega)).1 32 hm
    cases this
  refine parts_of _ (by simp) ?_
  intro x hx
  rcases List.mem_cons.1 hx with rfl | hx
  · obtain ⟨u, rfl⟩ := Int.eq_ofNat_of_zero_le (show 0 ≤ b by omega)
    exact hd u (by omega)
  · rcases List.mem_cons.1 hx with rfl | hx
    · obtain ⟨u, rfl⟩ := Int.eq_ofNat_of_zero_le (show 0 ≤ p by omega)
      exact hd u (by omega)
    · exact digs_no (cds_code hp.2.2.2.2 hx) rfl
theorem num_decS {b : Int} (h0 : 0 ≤ b) (h1 : b < 100) : numOk (decS b).data.toList = true ∧ numVal (decS b).data.toList = b := by
  obtain ⟨u, rfl⟩ := Int.eq_ofNat_of_zero_le h0
  rw [decS_nat, strOf_data]
  exact num_dec (by omega)
/-- A text of a plan is parsed. -/
theorem parse_fmtP {b p : Int} {l : List Str} (h : planOk b p l = true) : parsePl (fmtP b p l) = ((b, p, l), true) := by
  have hp := planOk_parts h
  have e := parts_fmtP h
  have e2 : plOf (decS b :: decS p :: l) = (b, p, l) := by
    unfold plOf
    simp only [List.getD_cons_zero, List.getD_cons_succ, List.drop_succ_cons, List.drop_zero]
    rw [(num_decS (b := b) (by omega) (by omega)).2, (num_decS (b := p) (by omega) (by omega)).2]
  unfold parsePl
  rw [e, e2]
  rw [if_pos]
  exact ⟨by have := hp.2.2.1.1; simp; omega, rfl⟩
theorem fmt_parsePl {t : Str} {q : Int × Int × List Str} (h : parsePl t = (q, true)) : fmtP q.1 q.2.1 q.2.2 = t := by
  unfold parsePl at h
  split at h
  · rename_i hk
    injection h with h1 _
    subst h1
    exact hk.2
  · injection h with _ h2; cases h2
/-- What the program asks. -/
theorem parsePl_impl {t : Str} (h3 : 3 ≤ (parts t).length) :
    parsePl t = if (parts t).length ≤ 62 ∧ numOk ((parts t).getD 0 ByteArray.empty).data.toList = true ∧ numOk ((parts t).getD 1 ByteArray.empty).data.toList = true ∧ planOk (plOf (parts t)).1 (plOf (parts t)).2.1 (plOf (parts t)).2.2 = true then (plOf (parts t), true) else ((0, 0, []), false) := by
  obtain ⟨x, y, l, hps⟩ : ∃ x y l, parts t = x :: y :: l := by
    cases h : parts t with
    | nil => rw [h] at h3; simp at h3
    | cons x r =>
      cases r with
      | nil => rw [h] at h3; simp at h3
      | cons y l => exact ⟨x, y, l, rfl⟩
  have hj := parts_join t
  have hne : t ≠ ByteArray.empty := by
    rintro rfl
    have e : parts ByteArray.empty = [ByteArray.empty] := rfl
    rw [e] at hps
    injection hps with _ h2
    cases h2
  unfold parsePl
  rw [hps] at h3 hj ⊢
  have e2 : plOf (x :: y :: l) = (numVal x.data.toList, numVal y.data.toList, l) := rfl
  rw [e2]
  simp only [List.getD_cons_zero, List.getD_cons_succ]
  by_cases hk : planOk (numVal x.data.toList) (numVal y.data.toList) l = true
  · have hp := planOk_parts hk
    have hx : numOk x.data.toList = true := by
      cases hc : numOk x.data.toList
      · exfalso
        have : numVal x.data.toList = 0 := by unfold numVal; rw [hc]; rfl
        have := hp.1; omega
      · rfl
    have hy : numOk y.data.toList = true := by
      cases hc : numOk y.data.toList
      · exfalso
        have : numVal y.data.toList = 0 := by unfold numVal; rw [hc]; rfl
        have := hp.2.1; omega
      · rfl
    rw [if_pos, if_pos ⟨by have := hp.2.2.1.2; simp; omega, hx, hy, hk⟩]
    refine ⟨h3, ?_⟩
    rw [fmtP_join hk]
    have d1 : decS (numVal x.data.toList) = x := by unfold decS; rw [dec_num hx (by omega), strOf_self]
    have d2 : decS (numVal y.data.toList) = y := by unfold decS; rw [dec_num hy (by omega), strOf_self]
    rw [d1, d2, hj]
  · rw [if_neg, if_neg (fun e => hk e.2.2.2)]
    rintro ⟨-, e⟩
    unfold fmtP at e
    rw [if_neg hk] at e
    exact hne e.symm
end Go.Proofs.Ytjibjoapbjojlaa
