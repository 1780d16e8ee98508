/-
  Texts cut into parts, numbers read and written, plain. No function of the program is named here.
-/
import Derived.Test.YtjibjoapbjojlaaFmM
import Derived.Test.YtjibjoapbjojlaaPlM
import Derived.Lib.ItoaNum
import Derived.Lib.IndexLaws
namespace Go.Proofs.Ytjibjoapbjojlaa
open Go.RowKit

/-- A text cut at each byte c. -/
def cutL (c : UInt8) : List UInt8 → List (List UInt8)
  | [] => [[]]
  | b :: l => if b = c then [] :: cutL c l else match cutL c l with
    | [] => [[b]]
    | p :: r => (b :: p) :: r
theorem cutL_ne (c : UInt8) : ∀ l, cutL c l ≠ []
  | [] => by simp [cutL]
  | b :: l => by
    unfold cutL
    split
    · simp
    · split <;> simp
theorem cutL_miss {c : UInt8} : ∀ {p : List UInt8}, ¬ c ∈ p → cutL c p = [p]
  | [], _ => rfl
  | b :: p, h => by
    have h1 : ¬ b = c := fun e => h (by simp [e])
    have h2 := cutL_miss (c := c) (p := p) (fun e => h (by simp [e]))
    unfold cutL
    rw [if_neg h1, h2]
theorem cutL_hit {c : UInt8} (r : List UInt8) : ∀ {p : List UInt8}, ¬ c ∈ p → cutL c (p ++ c :: r) = p :: cutL c r
  | [], _ => by rw [List.nil_append, cutL, if_pos rfl]
  | b :: p, h => by
    have h1 : ¬ b = c := fun e => h (by simp [e])
    have h2 := cutL_hit (c := c) r (p := p) (fun e => h (by simp [e]))
    rw [List.cons_append, cutL, if_neg h1, h2]
theorem join_two (x : List UInt8) {ys : List (List UInt8)} (c : UInt8) (h : ys ≠ []) : Lib.join (x :: ys) [c] = x ++ c :: Lib.join ys [c] := by
  obtain ⟨y, r, rfl⟩ := List.exists_cons_of_ne_nil h
  rw [Lib.join_cons, Lib.join_cons]
  simp [Lib.joinTail]
theorem cutL_join (c : UInt8) : ∀ l, Lib.join (cutL c l) [c] = l
  | [] => by rw [cutL, Lib.join_one]
  | b :: l => by
    have ih := cutL_join c l
    unfold cutL
    split
    · rename_i e
      rw [join_two _ _ (cutL_ne c l), ih, e, List.nil_append]
    · split
      · rename_i e; exact absurd e (cutL_ne c l)
      · rename_i p r e
        rw [e, Lib.join_cons] at ih
        rw [Lib.join_cons, List.cons_append, ih]
theorem cutL_clean (c : UInt8) : ∀ l, ∀ p ∈ cutL c l, ¬ c ∈ p
  | [], p, hp => by simp [cutL] at hp; subst hp; simp
  | b :: l, p, hp => by
    have ih := cutL_clean c l
    unfold cutL at hp
    split at hp
    · rcases List.mem_cons.1 hp with rfl | hp
      · simp
      · exact ih p hp
    · rename_i hb
      split at hp
      · rename_i e; exact absurd e (cutL_ne c l)
      · rename_i q r e
        rcases List.mem_cons.1 hp with rfl | hp
        · have := ih q (by rw [e]; simp)
          intro h
          rcases List.mem_cons.1 h with rfl | h
          · exact hb rfl
          · exact this h
        · exact ih p (by rw [e]; simp [hp])
theorem cutL_of_join (c : UInt8) : ∀ ps : List (List UInt8), ps ≠ [] → (∀ p ∈ ps, ¬ c ∈ p) → cutL c (Lib.join ps [c]) = ps
  | [], h, _ => absurd rfl h
  | [p], _, h => by rw [Lib.join_one]; exact cutL_miss (h p (by simp))
  | p :: q :: r, _, h => by
    rw [join_two p c (by simp), cutL_hit _ (h p (by simp)), cutL_of_join c (q :: r) (by simp) (fun x hx => h x (by simp [hx]))]
theorem cutL_len (c : UInt8) : ∀ l, (cutL c l).length ≤ l.length + 1
  | [] => by simp [cutL]
  | b :: l => by
    have ih := cutL_len c l
    unfold cutL
    split
    · simp; omega
    · split
      · simp
      · rename_i p r e
        rw [e] at ih
        simp at ih ⊢; omega
theorem cutL_size (c : UInt8) : ∀ l, ∀ p ∈ cutL c l, p.length ≤ l.length
  | [], p, hp => by simp [cutL] at hp; subst hp; simp
  | b :: l, p, hp => by
    have ih := cutL_size c l
    unfold cutL at hp
    split at hp
    · rcases List.mem_cons.1 hp with rfl | hp
      · simp
      · have := ih p hp; simp; omega
    · split at hp
      · rename_i e; exact absurd e (cutL_ne c l)
      · rename_i q r e
        rcases List.mem_cons.1 hp with rfl | hp
        · have := ih q (by rw [e]; simp)
          simp; omega
        · have := ih p (by rw [e]; simp [hp])
          simp; omega

def strOf (l : List UInt8) : Str := ⟨l.toArray⟩
theorem strOf_data (l : List UInt8) : (strOf l).data.toList = l := by simp [strOf]
theorem strOf_self (s : Str) : strOf s.data.toList = s := str_eq' (strOf_data _)
theorem size_data (s : Str) : s.data.toList.length = s.size := rfl
theorem strOf_size (l : List UInt8) : (strOf l).size = l.length := by rw [← size_data, strOf_data]
/-- The parts of a text between spaces. -/
def parts (t : Str) : List Str := (cutL 32 t.data.toList).map strOf
theorem parts_ne (t : Str) : parts t ≠ [] := by unfold parts; simpa using cutL_ne 32 _
theorem parts_pos (t : Str) : 1 ≤ (parts t).length := by
  have := parts_ne t
  cases h : parts t with
  | nil => exact absurd h this
  | cons x r => simp
theorem parts_join (t : Str) : joinL (parts t) = t := by
  refine str_eq' ?_
  rw [joinL_data]
  unfold parts
  rw [List.map_map, show ((fun x : Str => x.data.toList) ∘ strOf) = id from funext strOf_data, List.map_id, cutL_join]
theorem parts_of (ps : List Str) (h : ps ≠ []) (hc : ∀ p ∈ ps, ¬ (32 : UInt8) ∈ p.data.toList) : parts (joinL ps) = ps := by
  unfold parts
  rw [joinL_data, cutL_of_join 32 _ (by simpa using h) (by
    intro p hp
    obtain ⟨q, hq, rfl⟩ := List.mem_map.1 hp
    exact hc q hq), List.map_map, show (strOf ∘ fun x : Str => x.data.toList) = id from funext strOf_self, List.map_id]
theorem parts_len (t : Str) : (parts t).length ≤ t.size + 1 := by
  unfold parts; rw [List.length_map, ← size_data]; exact cutL_len 32 _
theorem parts_size {t p : Str} (hp : p ∈ parts t) : p.size ≤ t.size := by
  unfold parts at hp
  obtain ⟨q, hq, rfl⟩ := List.mem_map.1 hp
  rw [strOf_size, ← size_data]; exact cutL_size 32 _ q hq

/-- The first place of a byte. -/
def findB (c : UInt8) (s : Str) : Int := Lib.indexByte s.data.toList c
def befB (c : UInt8) (s : Str) : Str := s.extract 0 (findB c s).toNat
def aftB (c : UInt8) (s : Str) : Str := s.extract ((findB c s).toNat + 1) s.size
theorem findB_ge (c : UInt8) (s : Str) : -1 ≤ findB c s := Lib.indexByte_ge _ _
theorem findB_neg {c : UInt8} {s : Str} (h : findB c s < 0) : findB c s = -1 := by have := findB_ge c s; omega
theorem findB_lt {c : UInt8} {s : Str} (h : 0 ≤ findB c s) : (findB c s).toNat < s.size := by
  obtain ⟨o, ho⟩ := Int.eq_ofNat_of_zero_le h
  have h1 := (Lib.indexByte_some ho).1
  rw [← size_data, ho]
  exact (List.getElem?_eq_some_iff.1 h1).1
theorem extract_data (s : Str) (a b : Nat) : (s.extract a b).data.toList = (s.data.toList.drop a).take (b - a) := by
  simp [ByteArray.data_extract, Array.toList_extract, List.extract_eq_take_drop]
theorem cut_data {c : UInt8} {s : Str} (h : 0 ≤ findB c s) : s.data.toList = (befB c s).data.toList ++ c :: (aftB c s).data.toList := by
  obtain ⟨o, ho⟩ := Int.eq_ofNat_of_zero_le h
  have h1 := (Lib.indexByte_some ho).1
  obtain ⟨h2, h3⟩ := List.getElem?_eq_some_iff.1 h1
  have e : (findB c s).toNat = o := by rw [ho]; rfl
  unfold befB aftB
  rw [extract_data, extract_data, e, List.drop_zero, Nat.sub_zero, show (s.data.toList.drop (o + 1)).take (s.size - (o + 1)) = s.data.toList.drop (o + 1) from List.take_of_length_le (by rw [List.length_drop, size_data]; omega)]
  conv => lhs; rw [← List.take_append_drop o s.data.toList, List.drop_eq_getElem_cons h2, h3]
theorem bef_clean {c : UInt8} {s : Str} (h : 0 ≤ findB c s) : ¬ c ∈ (befB c s).data.toList := by
  obtain ⟨o, ho⟩ := Int.eq_ofNat_of_zero_le h
  have h1 := (Lib.indexByte_some ho).2
  have e : (findB c s).toNat = o := by rw [ho]; rfl
  unfold befB
  rw [extract_data, e, List.drop_zero, Nat.sub_zero]
  intro hm
  obtain ⟨k, hk, e2⟩ := List.getElem_of_mem hm
  rw [List.length_take] at hk
  refine h1 k (by omega) ?_
  rw [List.getElem_take] at e2
  rw [← e2]; exact List.getElem?_eq_getElem _
theorem indexByte_app (c : UInt8) (b : List UInt8) : ∀ {a : List UInt8}, ¬ c ∈ a → Lib.indexByte (a ++ c :: b) c = a.length
  | [], _ => by simp [Lib.indexByte]
  | x :: a, h => by
    have h1 : ¬ x = c := fun e => h (by simp [e])
    have ih := indexByte_app c b (a := a) (fun e => h (by simp [e]))
    rw [List.cons_append, Lib.indexByte, if_neg (by simpa using h1), ih, if_neg (by simp)]
    simp
theorem findB_of {c : UInt8} {s : Str} {a b : List UInt8} (h : s.data.toList = a ++ c :: b) (hc : ¬ c ∈ a) : findB c s = a.length ∧ befB c s = strOf a ∧ aftB c s = strOf b := by
  have h1 : findB c s = a.length := by unfold findB; rw [h]; exact indexByte_app c b hc
  refine ⟨h1, str_eq' ?_, str_eq' ?_⟩
  · unfold befB
    rw [extract_data, h1, strOf_data, h]; simp
  · unfold aftB
    rw [extract_data, h1, strOf_data, ← size_data, h]
    simp
    exact List.take_of_length_le (by omega)
theorem find_miss {c : UInt8} {s : Str} (h : findB c s < 0) : ¬ c ∈ s.data.toList := by
  have h1 := Lib.indexByte_none (findB_neg h)
  intro hm
  obtain ⟨k, hk, e⟩ := List.getElem_of_mem hm
  exact h1 k (by rw [List.getElem?_eq_getElem hk, e])

theorem parts_dash {t : Str} {c : UInt8} (hc : ¬ c = 45) (h : ∀ p ∈ parts t, 0 ≤ findB c p) : t ≠ cDash ∧ t ≠ ByteArray.empty := by
  constructor
  · rintro rfl
    have e : parts cDash = [cDash] := rfl
    rw [e] at h
    have := h cDash (by simp)
    rw [show findB c cDash = -1 from by unfold findB cDash Lib.indexByte; rw [if_neg (by simpa using Ne.symm hc)]; simp [Lib.indexByte]] at this
    omega
  · rintro rfl
    have e : parts ByteArray.empty = [ByteArray.empty] := rfl
    rw [e] at h
    have := h _ (List.mem_singleton.2 rfl)
    rw [show findB c ByteArray.empty = -1 from rfl] at this
    omega

/-- The orders of a text. -/
def fwOf (s : Str) : Fw := (befB 62 s, aftB 62 s)
theorem fwOf_piece {s : Str} (h : 0 ≤ findB 62 s) : fwPiece (fwOf s) = s := by
  refine str_eq' ?_
  rw [cut_data h]
  simp [fwPiece, fwOf, cGt]
open Classical in
noncomputable def parseFw (t : Str) : List Fw × Bool :=
  if t = cDash then ([], true)
  else if (parts t).length ≤ 30 ∧ (∀ p ∈ parts t, 0 ≤ findB 62 p) ∧ fwsOk ((parts t).map fwOf) = true then ((parts t).map fwOf, true) else ([], false)
theorem parseFw_dash : parseFw cDash = ([], true) := by unfold parseFw; rw [if_pos rfl]
theorem parseFw_no {t p : Str} (ht : t ≠ cDash) (hp : p ∈ parts t) (h : findB 62 p < 0) : parseFw t = ([], false) := by
  unfold parseFw
  rw [if_neg ht, if_neg]
  rintro ⟨-, h2, -⟩
  have := h2 p hp
  omega
theorem parseFw_long {t : Str} (ht : t ≠ cDash) (h : 30 < (parts t).length) : parseFw t = ([], false) := by
  unfold parseFw
  rw [if_neg ht, if_neg]
  rintro ⟨h1, -⟩
  omega
theorem parseFw_all {t : Str} (ht : t ≠ cDash) (h1 : (parts t).length ≤ 30) (h2 : ∀ p ∈ parts t, 0 ≤ findB 62 p) : parseFw t = if fwsOk ((parts t).map fwOf) = true then ((parts t).map fwOf, true) else ([], false) := by
  unfold parseFw
  rw [if_neg ht]
  by_cases h : fwsOk ((parts t).map fwOf) = true
  · rw [if_pos ⟨h1, h2, h⟩, if_pos h]
  · rw [if_neg (fun e => h e.2.2), if_neg h]
theorem fw_map {ps : List Str} (h : ∀ p ∈ ps, 0 ≤ findB 62 p) : (ps.map fwOf).map fwPiece = ps := by
  rw [List.map_map]
  conv => rhs; rw [← List.map_id ps]
  exact List.map_congr_left fun p hp => fwOf_piece (h p hp)
theorem fmt_parts {t : Str} (h2 : ∀ p ∈ parts t, 0 ≤ findB 62 p) (h : fwsOk ((parts t).map fwOf) = true) : fmtOf ((parts t).map fwOf) = t := by
  unfold fmtOf
  rw [if_pos h, if_neg (by simpa using parts_ne t), fw_map h2, parts_join]
open Classical in
theorem parseFw_spec {t : Str} (ht : t ≠ cDash) (h : ∀ p ∈ (parts t).take 31, 0 ≤ findB 62 p) :
    (if fmtOf (((parts t).take 31).map fwOf) = t then (((parts t).take 31).map fwOf, true) else ([], false)) = parseFw t := by
  by_cases hl : (parts t).length ≤ 30
  · rw [List.take_of_length_le (by omega)] at h ⊢
    rw [parseFw_all ht hl h]
    by_cases hk : fwsOk ((parts t).map fwOf) = true
    · rw [if_pos (fmt_parts h hk), if_pos hk]
    · rw [if_neg hk, if_neg]
      intro e
      unfold fmtOf at e
      rw [if_neg hk] at e
      exact (parts_dash (by decide) h).2 e.symm
  · rw [parseFw_long ht (by omega), if_neg]
    intro e
    unfold fmtOf at e
    rw [if_neg (by rw [fwsOk_long (by rw [List.length_map, List.length_take]; omega)]; decide)] at e
    subst e
    exact hl (by decide)
theorem digs_no {s : Str} (h : codeOk s = true) {c : UInt8} (hc : isDig c = false) : ¬ c ∈ s.data.toList := by
  unfold codeOk allDig at h
  rw [Bool.and_eq_true, List.all_eq_true] at h
  intro hm
  rw [h.2 c hm] at hc; cases hc
theorem parts_fmt {l : List Fw} (h : fwsOk l = true) (h0 : l ≠ []) : parts (fmtOf l) = l.map fwPiece := by
  unfold fmtOf
  rw [if_pos h, if_neg h0]
  refine parts_of _ (by simpa using h0) ?_
  intro p hp
  obtain ⟨x, hx, rfl⟩ := List.mem_map.1 hp
  obtain ⟨i, hi, rfl⟩ := List.getElem_of_mem hx
  have hk := ((fwsOk_iff l).1 h).2 i hi
  rw [fwOkAt_eq (List.getElem?_eq_getElem hi)] at hk
  simp only [Bool.and_eq_true] at hk
  have n1 := digs_no hk.1.1 (c := 32) rfl
  have n2 := digs_no hk.1.2 (c := 32) rfl
  simp only [fwPiece, cGt, ByteArray.data_append, Array.toList_append, List.mem_append, not_or]
  exact ⟨⟨n1, by decide⟩, n2⟩
theorem fwOf_self {x : Fw} (h : codeOk x.1 = true) : findB 62 (fwPiece x) = 7 ∧ fwOf (fwPiece x) = x := by
  have e : (fwPiece x).data.toList = x.1.data.toList ++ 62 :: x.2.data.toList := by simp [fwPiece, cGt]
  obtain ⟨h1, h2, h3⟩ := findB_of e (digs_no h rfl)
  refine ⟨by rw [h1, size_data, codeOk_size h]; rfl, ?_⟩
  unfold fwOf
  rw [h2, h3, strOf_self, strOf_self]
/-- A text of orders is parsed. -/
theorem parse_fmtFw {l : List Fw} (h : fwsOk l = true) : parseFw (fmtOf l) = (l, true) := by
  by_cases h0 : l = []
  · subst h0
    have : fmtOf [] = cDash := by unfold fmtOf; rw [if_pos h, if_pos rfl]
    rw [this, parseFw_dash]
  · have hp := parts_fmt h h0
    have hx : ∀ x ∈ l, codeOk x.1 = true := by
      intro x hx
      obtain ⟨i, hi, rfl⟩ := List.getElem_of_mem hx
      have hk := ((fwsOk_iff l).1 h).2 i hi
      rw [fwOkAt_eq (List.getElem?_eq_getElem hi)] at hk
      simp only [Bool.and_eq_true] at hk
      exact hk.1.1
    have hf : ∀ p ∈ parts (fmtOf l), 0 ≤ findB 62 p := by
      rw [hp]
      intro p hq
      obtain ⟨x, hxm, rfl⟩ := List.mem_map.1 hq
      rw [(fwOf_self (hx x hxm)).1]; omega
    have hm : (parts (fmtOf l)).map fwOf = l := by
      rw [hp, List.map_map]
      conv => rhs; rw [← List.map_id l]
      exact List.map_congr_left fun x hxm => (fwOf_self (hx x hxm)).2
    rw [parseFw_all (parts_dash (by decide) hf).1 (by rw [hp, List.length_map]; exact ((fwsOk_iff l).1 h).1) hf, hm, if_pos h]
/-- The orders of a text are written so. -/
theorem fmt_parseFw {t : Str} {l : List Fw} (h : parseFw t = (l, true)) : fmtOf l = t ∧ fwsOk l = true := by
  unfold parseFw at h
  split at h
  · rename_i e
    injection h with h1 _
    subst h1 e
    exact ⟨rfl, rfl⟩
  · split at h
    · rename_i hk
      injection h with h1 _
      subst h1
      exact ⟨fmt_parts hk.2.1 hk.2.2, hk.2.2⟩
    · injection h with _ h2; cases h2
end Go.Proofs.Ytjibjoapbjojlaa
