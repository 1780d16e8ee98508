/-
  Letters sorted by the digits that vary, plain. No function of the program is named here.
-/
import Derived.Test.YtjibjoapbjojlaaSbL
namespace Go.Proofs.Ytjibjoapbjojlaa
open Go.RowKit

theorem cmp_lt : ∀ a b : List UInt8, Lib.compareBytes a b < 0 ↔ a < b
  | [], [] => by simp [Lib.compareBytes]
  | [], b :: m => by simp [Lib.compareBytes]
  | a :: l, [] => by simp [Lib.compareBytes]
  | a :: l, b :: m => by
    rw [List.cons_lt_cons_iff]
    unfold Lib.compareBytes
    by_cases h1 : a < b
    · rw [if_pos h1]; simp [h1]
    · rw [if_neg h1]
      by_cases h2 : b < a
      · rw [if_pos h2]
        have h3 : ¬ a = b := by rintro rfl; exact UInt8.lt_irrefl _ h2
        simp [h1, h3]
      · rw [if_neg h2, cmp_lt l m]
        have h3 : a = b := by
          have e1 : ¬ a.toNat < b.toNat := fun h => h1 (UInt8.lt_iff_toNat_lt.2 h)
          have e2 : ¬ b.toNat < a.toNat := fun h => h2 (UInt8.lt_iff_toNat_lt.2 h)
          exact UInt8.toNat_inj.1 (by omega)
        simp [h3]
theorem strD {a b : Str} (h : a.data.toList = b.data.toList) : a = b := by
  cases a; cases b
  simp at h
  rw [h]
def bytesOf (x : Lt) : List UInt8 := x.2.data.toList
theorem lt_false {x y : Lt} : ltOf ltCf x y = false ↔ bytesOf y ≤ bytesOf x := by
  unfold ltOf ltCf
  rw [decide_eq_false_iff_not, cmp_lt]
  exact List.not_lt
theorem swo_lt : Go.Sort.SWO (ltOf ltCf) where
  irrefl x := by rw [lt_false]; exact List.le_refl _
  trans x y z h1 h2 := by
    unfold ltOf ltCf at *
    rw [decide_eq_true_eq, cmp_lt] at *
    exact List.lt_trans h1 h2
  ntrans x y z h1 h2 := by
    rw [lt_false] at *
    exact List.le_trans h2 h1
/-- In order. -/
def InOrd (m : List Lt) : Prop := m.Pairwise fun x y => bytesOf x ≤ bytesOf y
theorem sortLt_ord (m : List Lt) : InOrd (sortLt m) := by
  have h := (Go.Sort.insertionSort_holds (lt := ltOf ltCf) swo_lt m.toArray 0 m.length (Nat.zero_le _) (by simp)).2
  have hl : (sortLt m).length = m.length := sortLt_len m
  unfold InOrd
  rw [List.pairwise_iff_getElem]
  intro i j hi hj hij
  have h1 := h i j (Nat.zero_le _) hij (by omega)
  rw [lt_false] at h1
  have hs : (Go.Sort.insertionSort (ltOf ltCf) m.toArray 0 m.length).size = m.length := by
    have := hl; unfold sortLt at this; rw [Array.length_toList] at this; exact this
  rw [getElem!_pos _ i (by omega), getElem!_pos _ j (by omega)] at h1
  exact h1
/-- Letters in order are told by those of each code. -/
theorem ord_unique : ∀ {a b : List Lt}, (∀ c : Str, a.filter (fun x => decide (x.2 = c)) = b.filter fun x => decide (x.2 = c)) → InOrd a → InOrd b → a = b
  | [], [], _, _, _ => rfl
  | [], y :: b, h, _, _ => by have := h y.2; simp at this
  | x :: a, [], h, _, _ => by have := h x.2; simp at this
  | x :: a, y :: b, h, ha, hb => by
    have ha' := List.pairwise_cons.1 ha
    have hb' := List.pairwise_cons.1 hb
    have hxb : x ∈ y :: b := by
      have h1 : x ∈ (x :: a).filter (fun z => decide (z.2 = x.2)) := by simp
      rw [h x.2] at h1
      exact (List.mem_filter.1 h1).1
    have hya : y ∈ x :: a := by
      have h1 : y ∈ (y :: b).filter (fun z => decide (z.2 = y.2)) := by simp
      rw [← h y.2] at h1
      exact (List.mem_filter.1 h1).1
    have e1 : bytesOf y ≤ bytesOf x := by
      rcases List.mem_cons.1 hxb with rfl | hm
      · exact List.le_refl _
      · exact hb'.1 x hm
    have e2 : bytesOf x ≤ bytesOf y := by
      rcases List.mem_cons.1 hya with rfl | hm
      · exact List.le_refl _
      · exact ha'.1 y hm
    have e3 : x.2 = y.2 := strD (List.le_antisymm e2 e1)
    have h1 := h x.2
    rw [List.filter_cons_of_pos (by simp), List.filter_cons_of_pos (by simp [e3])] at h1
    injection h1 with h2 h3
    subst h2
    rw [ord_unique (fun c => ?_) ha'.2 hb'.2]
    by_cases hc : x.2 = c
    · subst hc; exact h3
    · have := h c
      rwa [List.filter_cons_of_neg (by simpa using hc), List.filter_cons_of_neg (by simpa using hc)] at this

/-! ### Digits -/
def digAt (d : Nat) (c : Str) : Int := ((c.data.toList.getD d 48).toNat : Int) - 48
theorem digAt_eq {d : Nat} {c : Str} (h : d < c.size) : digAt d c = ((c[d]).toNat : Int) - 48 := by
  unfold digAt
  rw [List.getD_eq_getElem?_getD, List.getElem?_eq_getElem (show d < c.data.toList.length from h)]
  rfl
theorem digAt_bd {d : Nat} {c : Str} (h : codeOk c = true) (hd : d < 7) : 0 ≤ digAt d c ∧ digAt d c < 10 := by
  have hs := codeOk_size h
  rw [digAt_eq (by omega)]
  have h2 : allDig c = true := by unfold codeOk at h; rw [Bool.and_eq_true] at h; exact h.2
  have := (allDig_iff c).1 h2 d (by omega)
  unfold isDig at this
  rw [decide_eq_true_eq] at this
  omega
/-- A pass by digit d. -/
def passD (d : Nat) (m : List Lt) : List Lt := (plBins 10 (digAt d) m).flatten
theorem passD_flat (d : Nat) (m : List Lt) : passD d m = (List.range 10).flatMap fun k : Nat => m.filter fun x => decide (digAt d x.2 = (k : Int)) := flatten_map _ _
theorem one_flat {α : Type} {f : Nat → List α} {q : Nat} : ∀ B : Nat, q < B → (∀ k, k < B → k ≠ q → f k = []) → (List.range B).flatMap f = f q
  | 0, h, _ => absurd h (by omega)
  | B + 1, h, h0 => by
    rw [List.range_succ, List.flatMap_append, List.flatMap_cons, List.flatMap_nil, List.append_nil]
    by_cases e : q = B
    · subst e
      rw [flat_nil fun k hk => h0 k (by have := List.mem_range.1 hk; omega) (by have := List.mem_range.1 hk; omega), List.nil_append]
    · rw [one_flat B (by omega) fun k hk hne => h0 k (by omega) hne, h0 B (by omega) (fun e2 => e e2.symm), List.append_nil]
theorem bucketP (g : Lt → Int) : ∀ (B : Nat) (m : List Lt), (∀ x ∈ m, 0 ≤ g x ∧ g x < (B : Int)) → ((List.range B).flatMap fun k : Nat => m.filter fun x => decide (g x = (k : Int))).Perm m
  | B, [], _ => by rw [flat_nil (f := fun k : Nat => List.filter (fun x => decide (g x = (k : Int))) []) fun k _ => rfl]
  | B, x :: m, h => by
    have ih := bucketP g B m fun y hy => h y (by simp [hy])
    obtain ⟨q, hq⟩ := Int.eq_ofNat_of_zero_le (h x (by simp)).1
    have hqB : q < B := by have := (h x (by simp)).2; omega
    have hsp : ∀ C : Nat, C ≤ B → ((List.range C).flatMap fun k : Nat => (x :: m).filter fun x => decide (g x = (k : Int))).Perm ((if q < C then [x] else []) ++ (List.range C).flatMap fun k : Nat => m.filter fun x => decide (g x = (k : Int))) := by
      intro C
      induction C with
      | zero => intro _; simp
      | succ C ihC =>
        intro hC
        have h1 := ihC (by omega)
        rw [List.range_succ, List.flatMap_append, List.flatMap_append, List.flatMap_cons, List.flatMap_nil, List.append_nil, List.flatMap_cons, List.flatMap_nil, List.append_nil]
        by_cases e : q = C
        · subst e
          rw [if_neg (by omega), List.nil_append] at h1
          rw [if_pos (by omega), List.filter_cons_of_pos (by simpa using hq)]
          exact (h1.append_right _).trans List.perm_middle
        · rw [List.filter_cons_of_neg (by rw [hq]; simp; omega)]
          by_cases e2 : q < C
          · rw [if_pos e2] at h1
            rw [if_pos (by omega), ← List.append_assoc]
            exact h1.append_right _
          · rw [if_neg e2] at h1
            rw [if_neg (by omega), ← List.append_assoc]
            exact h1.append_right _
    refine (hsp B (Nat.le_refl _)).trans ?_
    rw [if_pos hqB]
    exact ih.cons x
theorem passD_stab {d : Nat} {m : List Lt} (hd : d < 7) (h : ∀ x ∈ m, codeOk x.2 = true) : Stab m (passD d m) := by
  rw [passD_flat]
  refine ⟨bucketP (fun x => digAt d x.2) 10 m fun x hx => digAt_bd (h x hx) hd, fun c => ?_⟩
  rw [filter_flatMap]
  have e : ∀ k : Nat, (m.filter fun x => decide (digAt d x.2 = (k : Int))).filter (fun x => decide (x.2 = c)) = if digAt d c = (k : Int) then m.filter (fun x => decide (x.2 = c)) else [] := fun k => by
    rw [List.filter_filter]
    by_cases hk : digAt d c = (k : Int)
    · rw [if_pos hk]
      refine List.filter_congr fun x _ => ?_
      by_cases hx : x.2 = c
      · rw [hx]; simp [hk]
      · simp [hx]
    · rw [if_neg hk, List.filter_eq_nil_iff]
      intro x _ hx
      rw [Bool.and_eq_true, decide_eq_true_eq, decide_eq_true_eq] at hx
      exact hk (hx.1 ▸ hx.2)
  rw [flatMap_congr' fun k _ => e k]
  by_cases hc : m.filter (fun x => decide (x.2 = c)) = []
  · rw [hc]; exact flat_nil fun k _ => by simp
  · obtain ⟨x, hx⟩ := List.exists_mem_of_ne_nil _ hc
    obtain ⟨hxm, hxc⟩ := List.mem_filter.1 hx
    have hxc := of_decide_eq_true hxc
    have hb := digAt_bd (h x hxm) hd
    rw [hxc] at hb
    obtain ⟨q, hq⟩ := Int.eq_ofNat_of_zero_le hb.1
    rw [one_flat (q := q) 10 (by omega) fun k _ hne => by rw [if_neg (by omega)], if_pos hq]
/-- A pass for a digit in which all agree changes nothing. -/
theorem passD_same {d : Nat} {m : List Lt} {q : Nat} (hq : q < 10) (h : ∀ x ∈ m, digAt d x.2 = (q : Int)) : passD d m = m := by
  rw [passD_flat, one_flat (q := q) 10 hq fun k _ hne => ?_]
  · rw [List.filter_eq_self]; intro x hx; exact decide_eq_true (h x hx)
  · rw [List.filter_eq_nil_iff]
    intro x hx hk
    have := of_decide_eq_true hk
    rw [h x hx] at this
    omega
def lexD : List Nat → Str → Str → Prop
  | [], _, _ => True
  | d :: ds, x, y => digAt d x < digAt d y ∨ (digAt d x = digAt d y ∧ lexD ds x y)
theorem passD_lex {d : Nat} {ds : List Nat} {m : List Lt} (h : m.Pairwise fun x y => lexD ds x.2 y.2) : (passD d m).Pairwise fun x y => lexD (d :: ds) x.2 y.2 := by
  unfold passD
  rw [List.pairwise_flatten]
  refine ⟨fun l hl => ?_, ?_⟩
  · obtain ⟨k, _, rfl⟩ := List.mem_map.1 hl
    refine List.Pairwise.imp_of_mem ?_ (h.sublist List.filter_sublist)
    intro x y hx hy hxy
    have e1 := of_decide_eq_true (List.mem_filter.1 hx).2
    have e2 := of_decide_eq_true (List.mem_filter.1 hy).2
    exact .inr ⟨by omega, hxy⟩
  · rw [plBins, List.pairwise_map]
    refine List.Pairwise.imp ?_ (List.pairwise_lt_range (n := 10))
    intro i j hij x hx y hy
    have e1 := of_decide_eq_true (List.mem_filter.1 hx).2
    have e2 := of_decide_eq_true (List.mem_filter.1 hy).2
    exact .inl (by omega)
/-- Passes for some digits, the last one first. -/
def shortD (ds : List Nat) (m : List Lt) : List Lt := ds.foldr passD m
theorem shortD_stab {m : List Lt} (h : ∀ x ∈ m, codeOk x.2 = true) : ∀ ds : List Nat, (∀ d ∈ ds, d < 7) → Stab m (shortD ds m)
  | [], _ => Stab.refl m
  | d :: ds, hd => by
    have ih := shortD_stab h ds fun e he => hd e (by simp [he])
    exact ih.trans (passD_stab (hd d (by simp)) fun x hx => h x (ih.1.mem_iff.1 hx))
theorem shortD_lex {m : List Lt} : ∀ ds : List Nat, (shortD ds m).Pairwise fun x y => lexD ds x.2 y.2
  | [] => by
    refine List.pairwise_iff_getElem.2 fun _ _ _ _ _ => trivial
  | d :: ds => passD_lex (shortD_lex ds)
theorem lexD_filter {p : Nat → Bool} {x y : Str} : ∀ ds : List Nat, (∀ d ∈ ds, p d = false → digAt d x = digAt d y) → lexD (ds.filter p) x y → lexD ds x y
  | [], _, _ => trivial
  | d :: ds, h, hl => by
    cases hp : p d
    · rw [List.filter_cons_of_neg (by simp [hp])] at hl
      exact .inr ⟨h d (by simp) hp, lexD_filter ds (fun e he => h e (by simp [he])) hl⟩
    · rw [List.filter_cons_of_pos hp] at hl
      rcases hl with hl | ⟨e, hl⟩
      · exact .inl hl
      · exact .inr ⟨e, lexD_filter ds (fun e he => h e (by simp [he])) hl⟩
theorem lexD_le {x y : Str} : ∀ (n k : Nat), x.size = k + n → y.size = k + n → lexD (List.range' k n) x y → x.data.toList.drop k ≤ y.data.toList.drop k
  | 0, k, hx, hy, _ => by
    rw [List.drop_eq_nil_of_le (show x.data.toList.length ≤ k by show x.size ≤ k; omega), List.drop_eq_nil_of_le (show y.data.toList.length ≤ k by show y.size ≤ k; omega)]
    exact List.le_refl _
  | n + 1, k, hx, hy, h => by
    have hkx : k < x.data.toList.length := by show k < x.size; omega
    have hky : k < y.data.toList.length := by show k < y.size; omega
    rw [List.drop_eq_getElem_cons hkx, List.drop_eq_getElem_cons hky, List.cons_le_cons_iff]
    rw [List.range'_succ] at h
    have ex : digAt k x = ((x.data.toList[k]).toNat : Int) - 48 := by unfold digAt; rw [List.getD_eq_getElem?_getD, List.getElem?_eq_getElem hkx]; rfl
    have ey : digAt k y = ((y.data.toList[k]).toNat : Int) - 48 := by unfold digAt; rw [List.getD_eq_getElem?_getD, List.getElem?_eq_getElem hky]; rfl
    rcases h with h | ⟨e, h⟩
    · left; rw [ex, ey] at h; exact UInt8.lt_iff_toNat_lt.2 (by omega)
    · right
      rw [ex, ey] at e
      exact ⟨UInt8.toNat_inj.1 (by omega), lexD_le n (k + 1) (by omega) (by omega) h⟩

/-! ### Digits that vary -/
def firstC (m : List Lt) : Str := (m.getD 0 (0, ByteArray.empty)).2
def varies (m : List Lt) (d : Nat) : Bool := m.any fun x => !decide (digAt d x.2 = digAt d (firstC m))
def vary (m : List Lt) : List Nat := (List.range 7).filter (varies m)
theorem vary_no {m : List Lt} {d : Nat} (h : varies m d = false) : ∀ x ∈ m, digAt d x.2 = digAt d (firstC m) := by
  intro x hx
  unfold varies at h
  rw [List.any_eq_false] at h
  have := h x hx
  simpa using this
theorem firstC_mem {m : List Lt} (h : m ≠ []) : ∃ x ∈ m, x.2 = firstC m := by
  obtain ⟨x, r, rfl⟩ := List.exists_cons_of_ne_nil h
  exact ⟨x, by simp, rfl⟩
theorem vary_lt {m : List Lt} : ∀ d ∈ vary m, d < 7 := fun _ hd => List.mem_range.1 (List.mem_filter.1 hd).1
/-- Passes for the digits that vary sort. -/
theorem short_sort {m : List Lt} (h : ∀ x ∈ m, codeOk x.2 = true) : shortD (vary m) m = sortLt m := by
  have hs := shortD_stab h (vary m) vary_lt
  refine ord_unique (fun c => (hs.2 c).trans ((sortLt_stab m).2 c).symm) ?_ (sortLt_ord m)
  refine List.Pairwise.imp_of_mem ?_ (shortD_lex (m := m) (vary m))
  intro x y hx hy hl
  have hx := hs.1.mem_iff.1 hx
  have hy := hs.1.mem_iff.1 hy
  have h1 : lexD (List.range 7) x.2 y.2 := lexD_filter _ (fun _ _ hp => (vary_no hp x hx).trans (vary_no hp y hy).symm) hl
  have h2 := lexD_le 7 0 (by rw [codeOk_size (h x hx)]) (by rw [codeOk_size (h y hy)]) (by rw [← List.range_eq_range']; exact h1)
  rw [List.drop_zero, List.drop_zero] at h2
  exact h2
theorem vary_same {m : List Lt} {d : Nat} (h : ∀ x ∈ m, codeOk x.2 = true) (hd : d < 7) (hv : varies m d = false) : passD d m = m := by
  by_cases h0 : m = []
  · subst h0
    unfold passD
    rw [plBins_nil]; simp
  · obtain ⟨x, hx, e⟩ := firstC_mem h0
    have hb := digAt_bd (h x hx) hd
    rw [e] at hb
    obtain ⟨q, hq⟩ := Int.eq_ofNat_of_zero_le hb.1
    exact passD_same (q := q) (by omega) fun y hy => (vary_no hv y hy).trans hq
/-- How many digits below d vary. -/
def varyTo (m : List Lt) (d : Nat) : Nat := ((List.range d).filter (varies m)).length
theorem varyTo_succ (m : List Lt) (d : Nat) : varyTo m (d + 1) = varyTo m d + if varies m d = true then 1 else 0 := by
  unfold varyTo
  rw [List.range_succ, List.filter_append, List.length_append]
  cases h : varies m d
  · rw [List.filter_cons_of_neg (by simp [h])]; rfl
  · rw [List.filter_cons_of_pos h]; rfl
theorem vary_split (m : List Lt) {d : Nat} (hd : d < 7) : vary m = (List.range d).filter (varies m) ++ (if varies m d = true then [d] else []) ++ (List.range' (d + 1) (6 - d)).filter (varies m) := by
  unfold vary
  have e : List.range 7 = List.range d ++ [d] ++ List.range' (d + 1) (6 - d) := by
    rw [← List.range_succ, List.range_eq_range', List.range_eq_range', show (7 : Nat) = (d + 1) + (6 - d) by omega, ← List.range'_append_1, Nat.zero_add]
  rw [e, List.filter_append, List.filter_append]
  congr 2
  cases h : varies m d
  · rw [List.filter_cons_of_neg (by simp [h])]; rfl
  · rw [List.filter_cons_of_pos h]; rfl
theorem vary_hit {m : List Lt} {d : Nat} (hd : d < 7) (h : varies m d = true) : (vary m)[varyTo m d]? = some d := by
  rw [vary_split m hd, if_pos h, List.append_assoc]
  unfold varyTo
  rw [List.getElem?_append_right (Nat.le_refl _), Nat.sub_self]
  rfl
theorem vary_miss {m : List Lt} {d e : Nat} (hd : d < 7) (h : varies m d = false) (he : (vary m)[varyTo m d]? = some e) : e ≠ d := by
  rintro rfl
  rw [vary_split m hd, if_neg (by rw [h]; decide), List.append_nil] at he
  unfold varyTo at he
  rw [List.getElem?_append_right (Nat.le_refl _), Nat.sub_self] at he
  have := List.mem_filter.1 (List.mem_of_getElem? he)
  rw [h] at this
  cases this.2
theorem varyTo_le (m : List Lt) {d : Nat} (hd : d ≤ 7) : varyTo m d ≤ (vary m).length := by
  by_cases h : d = 7
  · subst h; exact Nat.le_refl _
  · rw [vary_split m (show d < 7 by omega)]
    unfold varyTo
    rw [List.length_append, List.length_append]
    omega
end Go.Proofs.Ytjibjoapbjojlaa
