/-
  All passes of a plan put letters into the order of the round: plain lists. No function of the program is named here.
-/
import Derived.Test.YtjibjoapbjojlaaPsR
namespace Go.Proofs.Ytjibjoapbjojlaa
open Go.RowKit

/-- The letters in the order of the round. -/
def roundOf (l : List Str) (m : List Lt) : List Lt := l.flatMap fun c => m.filter fun x => decide (x.2 = c)

theorem pw_nat (B : Nat) : ∀ k : Nat, pw (B : Int) k = ((B ^ k : Nat) : Int)
  | 0 => rfl
  | k + 1 => by show pw (B : Int) k * B = _; rw [pw_nat B k, Nat.pow_succ, Int.natCast_mul]
theorem passF_none {B : Nat} {l : List Str} {k : Nat} {c : Str} (h : strIdx l c = none) : passF B l k c = -1 := by
  unfold passF binVal; rw [h]
theorem passF_some {B : Nat} {l : List Str} {k q : Nat} {c : Str} (h : strIdx l c = some q) : passF B l k c = ((q / B ^ k % B : Nat) : Int) := by
  unfold passF binVal; rw [h]
  show (q : Int) / pw (B : Int) ((k : Int).toNat) % (B : Int) = _
  rw [Int.toNat_natCast, pw_nat]; rfl
/-- Is the rank of a code, as far as its last k digits go, r? -/
def lowIs (B : Nat) (l : List Str) (k r : Nat) (x : Lt) : Bool := match strIdx l x.2 with
  | none => false
  | some q => decide (q % B ^ k = r)
theorem range_mul {α : Type} (C : Nat) (F : Nat → List α) : ∀ B : Nat, (List.range B).flatMap (fun d => (List.range C).flatMap fun r => F (r + d * C)) = (List.range (B * C)).flatMap F
  | 0 => by simp
  | B + 1 => by
    rw [List.range_succ, List.flatMap_append, range_mul C F B, Nat.add_mul, Nat.one_mul, List.range_add, List.flatMap_append]
    congr 1
    simp [List.flatMap_map, Nat.add_comm]
theorem flatten_map {α β : Type} (f : α → List β) (l : List α) : (l.map f).flatten = l.flatMap f := (List.flatMap_def ..).symm
theorem low_digit {B C q r d : Nat} (hC : 0 < C) (hr : r < C) (hd : d < B) : (q % C = r ∧ q / C % B = d) ↔ q % (C * B) = r + d * C := by
  rw [Nat.mod_mul]
  constructor
  · rintro ⟨rfl, rfl⟩; rw [Nat.mul_comm]
  · intro h
    have h1 : q % C < C := Nat.mod_lt _ hC
    have e1 : (q % C + C * (q / C % B)) % C = q % C := by rw [Nat.add_mul_mod_self_left, Nat.mod_eq_of_lt h1]
    have e2 : (r + d * C) % C = r := by rw [Nat.mul_comm, Nat.add_mul_mod_self_left, Nat.mod_eq_of_lt hr]
    have e3 : q % C = r := by rw [← e1, h, e2]
    refine ⟨e3, ?_⟩
    rw [e3, Nat.mul_comm d C] at h
    exact Nat.eq_of_mul_eq_mul_left hC (by omega)
theorem filter_flatMap {α β : Type} (p : β → Bool) (f : α → List β) : ∀ l : List α, (l.flatMap f).filter p = l.flatMap fun a => (f a).filter p
  | [] => rfl
  | a :: l => by simp only [List.flatMap_cons, List.filter_append, filter_flatMap p f l]
theorem flatMap_congr' {α β : Type} {f g : α → List β} : ∀ {l : List α}, (∀ a ∈ l, f a = g a) → l.flatMap f = l.flatMap g
  | [], _ => rfl
  | a :: l, h => by rw [List.flatMap_cons, List.flatMap_cons, h a (by simp), flatMap_congr' (l := l) fun x hx => h x (by simp [hx])]
/-- After k passes: the letters of each value of the last k digits, one behind the other. -/
theorem passN_low {B : Nat} (hB : 0 < B) (l : List Str) (m : List Lt) : ∀ k, (passN B l k m).filter (fun x => (strIdx l x.2).isSome) = (List.range (B ^ k)).flatMap fun r => m.filter (lowIs B l k r)
  | 0 => by
    show m.filter _ = _
    rw [Nat.pow_zero, List.range_one, List.flatMap_cons, List.flatMap_nil, List.append_nil]
    refine List.filter_congr fun x _ => ?_
    unfold lowIs
    cases strIdx l x.2 with
    | none => rfl
    | some q => simp [Nat.mod_one]
  | k + 1 => by
    have ih := passN_low hB l m k
    show (((List.range B).map (plBin (passF B l k) (passN B l k m))).flatten).filter _ = _
    rw [flatten_map, filter_flatMap, Nat.pow_succ, Nat.mul_comm, ← range_mul]
    refine flatMap_congr' fun d hd => ?_
    have hd' : d < B := List.mem_range.1 hd
    have e1 : (plBin (passF B l k) (passN B l k m) d).filter (fun x => (strIdx l x.2).isSome) = ((passN B l k m).filter (fun x => (strIdx l x.2).isSome)).filter fun x => decide (passF B l k x.2 = (d : Int)) := by
      unfold plBin
      rw [List.filter_filter, List.filter_filter]
      exact List.filter_congr fun x _ => Bool.and_comm _ _
    rw [e1, ih, filter_flatMap]
    refine flatMap_congr' fun r hr => ?_
    have hr' : r < B ^ k := List.mem_range.1 hr
    rw [List.filter_filter]
    refine List.filter_congr fun x _ => ?_
    unfold lowIs
    cases hx : strIdx l x.2 with
    | none => simp
    | some q =>
      simp only
      rw [passF_some hx]
      rw [Bool.eq_iff_iff]
      simp only [Bool.and_eq_true, decide_eq_true_eq]
      have := low_digit (q := q) (Nat.pow_pos (n := k) hB) hr' hd'
      rw [Nat.pow_succ, ← this]
      constructor
      · rintro ⟨h1, h2⟩; exact ⟨h2, by omega⟩
      · rintro ⟨h1, h2⟩; exact ⟨by omega, h1⟩
theorem passN_ranked {B : Nat} {l : List Str} {k : Nat} {m : List Lt} : (passN B l (k + 1) m).filter (fun x => (strIdx l x.2).isSome) = passN B l (k + 1) m := by
  rw [List.filter_eq_self]
  intro x hx
  obtain ⟨y, hy, hx⟩ := List.mem_flatten.1 hx
  obtain ⟨i, _, rfl⟩ := List.mem_map.1 hy
  have h2 := of_decide_eq_true (List.mem_filter.1 hx).2
  cases hn : strIdx l x.2 with
  | some _ => rfl
  | none => rw [passF_none hn] at h2; omega
theorem range_map_at {α β : Type} (l : List α) : ∀ (f : Option α → List β), (List.range l.length).flatMap (fun r => f l[r]?) = l.flatMap fun c => f (some c) := by
  intro f
  induction l generalizing f with
  | nil => rfl
  | cons a l ih =>
    rw [List.length_cons, List.range_succ_eq_map, List.flatMap_cons, List.flatMap_cons, List.flatMap_map]
    simp only [List.getElem?_cons_zero, List.getElem?_cons_succ]
    rw [← ih]
theorem flat_nil {α β : Type} {f : α → List β} : ∀ {l : List α}, (∀ a ∈ l, f a = []) → l.flatMap f = []
  | [], _ => rfl
  | a :: l, h => by rw [List.flatMap_cons, h a (by simp), flat_nil fun x hx => h x (by simp [hx])]; rfl
/-- Places are what they should be where no text stands twice. -/
theorem strIdx_nodup {l : List Str} (h : l.Nodup) {c : Str} {k : Nat} : strIdx l c = some k ↔ l[k]? = some c := by
  rw [strIdx_some]
  constructor
  · exact fun h => h.1
  · intro hk
    refine ⟨hk, fun i x hi hx e => ?_⟩
    subst e
    have hkl := (List.getElem?_eq_some_iff.1 hk).1
    exact Nat.ne_of_lt hi ((List.getElem?_inj (i := i) (j := k) (by omega) h).1 (hx.trans hk.symm))
theorem cdsOk_nodup {l : List Str} (h : cdsOk l = true) : l.Nodup := by
  rw [List.nodup_iff_pairwise_ne, List.pairwise_iff_getElem]
  intro i j hi hj hlt e
  have h1 := (cdsOk_iff l).1 h j hj
  rw [cdOkAt_eq (List.getElem?_eq_getElem hj), Bool.and_eq_true, Option.isNone_iff_eq_none] at h1
  exact strIdx_none.1 h1.2 i l[i] (by rw [List.getElem?_take, if_pos hlt]; exact List.getElem?_eq_getElem hi) e
/-- All passes put the letters in the order of the round. -/
theorem passN_round {B : Nat} (hB : 0 < B) {l : List Str} (hn : l.Nodup) {E : Nat} (hE : 0 < E) (hl : l.length ≤ B ^ E) (m : List Lt) : passN B l E m = roundOf l m := by
  obtain ⟨k, rfl⟩ : ∃ k, E = k + 1 := ⟨E - 1, by omega⟩
  rw [← passN_ranked, passN_low hB]
  unfold roundOf
  have h1 : ∀ r, r < B ^ (k + 1) → m.filter (lowIs B l (k + 1) r) = (fun o : Option Str => m.filter fun x => decide (some x.2 = o)) l[r]? := fun r hr => by
    refine List.filter_congr fun x _ => ?_
    unfold lowIs
    cases hx : strIdx l x.2 with
    | none =>
      symm
      refine decide_eq_false fun e => ?_
      exact strIdx_none.1 hx r x.2 e.symm rfl
    | some q =>
      have hq := strIdx_lt hx
      simp only
      rw [Nat.mod_eq_of_lt (by omega), Bool.eq_iff_iff, decide_eq_true_eq, decide_eq_true_eq]
      constructor
      · rintro rfl; exact ((strIdx_nodup hn).1 hx).symm
      · intro e
        have := (strIdx_nodup hn).2 e.symm
        rw [hx] at this; injection this
  obtain ⟨t, ht⟩ : ∃ t, B ^ (k + 1) = l.length + t := ⟨B ^ (k + 1) - l.length, by omega⟩
  rw [ht] at h1 ⊢
  rw [List.range_add, List.flatMap_append]
  rw [flatMap_congr' (g := fun r => (fun o : Option Str => m.filter fun x => decide (some x.2 = o)) l[r]?) (fun r hr => h1 r (by have := List.mem_range.1 hr; omega))]
  rw [range_map_at l (fun o : Option Str => m.filter fun x => decide (some x.2 = o))]
  rw [flat_nil (l := (List.range t).map fun x => l.length + x) (fun r hr => by
    obtain ⟨j, hj, rfl⟩ := List.mem_map.1 hr
    rw [h1 _ (by have := List.mem_range.1 hj; omega), List.getElem?_eq_none (by omega)]
    simp)]
  rw [List.append_nil]
  exact flatMap_congr' fun c _ => List.filter_congr fun x _ => by simp
theorem mem_round {l : List Str} {m : List Lt} {x : Lt} : x ∈ roundOf l m ↔ x.2 ∈ l ∧ x ∈ m := by
  unfold roundOf
  rw [List.mem_flatMap]
  constructor
  · rintro ⟨c, hc, hx⟩
    obtain ⟨h1, h2⟩ := List.mem_filter.1 hx
    have := of_decide_eq_true h2
    subst this; exact ⟨hc, h1⟩
  · rintro ⟨h1, h2⟩
    exact ⟨x.2, h1, List.mem_filter.2 ⟨h2, by simp⟩⟩
/-- The letters of one code keep their order. -/
theorem round_filter {l : List Str} (hn : l.Nodup) {c : Str} (hc : c ∈ l) (m : List Lt) : (roundOf l m).filter (fun x => decide (x.2 = c)) = m.filter fun x => decide (x.2 = c) := by
  unfold roundOf
  rw [filter_flatMap]
  induction l with
  | nil => cases hc
  | cons a l ih =>
    have hn' := List.nodup_cons.1 hn
    rw [List.flatMap_cons]
    rcases List.mem_cons.1 hc with rfl | hc
    · rw [flat_nil (fun b hb => by
        rw [List.filter_filter, List.filter_eq_nil_iff]
        intro x _ h
        simp only [Bool.and_eq_true, decide_eq_true_eq] at h
        exact hn'.1 (by rw [← h.1, h.2]; exact hb)), List.append_nil, List.filter_filter]
      exact List.filter_congr fun x _ => Bool.and_self _
    · rw [ih hn'.2 hc, show (m.filter fun x => decide (x.2 = a)).filter (fun x => decide (x.2 = c)) = [] from by
        rw [List.filter_filter, List.filter_eq_nil_iff]
        intro x _ h
        simp only [Bool.and_eq_true, decide_eq_true_eq] at h
        exact hn'.1 (by rw [← h.2, h.1]; exact hc), List.nil_append]
theorem round_congr {l : List Str} {m m' : List Lt} (h : ∀ c, m.filter (fun x => decide (x.2 = c)) = m'.filter fun x => decide (x.2 = c)) : roundOf l m = roundOf l m' := flatMap_congr' fun c _ => h c
theorem round_round {l : List Str} (hn : l.Nodup) (m : List Lt) : roundOf l (roundOf l m) = roundOf l m := flatMap_congr' fun _ hc => round_filter hn hc m
theorem flatMap_reverse {α β : Type} (f : α → List β) : ∀ l : List α, l.reverse.flatMap (fun a => (f a).reverse) = (l.flatMap f).reverse
  | [] => rfl
  | a :: l => by simp [List.flatMap_append, flatMap_reverse f l]
theorem round_reverse (l : List Str) (m : List Lt) : roundOf l.reverse m.reverse = (roundOf l m).reverse := by
  unfold roundOf
  rw [← flatMap_reverse]
  exact flatMap_congr' fun c _ => List.filter_reverse ..
theorem round_append (l l' : List Str) (m : List Lt) : roundOf (l ++ l') m = roundOf l m ++ roundOf l' m := List.flatMap_append ..
theorem plRest_eq (B : Nat) (l : List Str) (k : Nat) (m : List Lt) : plRest (passF B l k) m = m.filter fun x => !(strIdx l x.2).isSome := by
  refine List.filter_congr fun x _ => ?_
  cases h : strIdx l x.2 with
  | none => rw [passF_none h]; rfl
  | some q => rw [passF_some h]; exact decide_eq_false (by omega)
/-- A batch: at most sixty letters, each valid, no number twice. -/
def ltFine (x : Lt) : Prop := (1 ≤ x.1 ∧ x.1 ≤ 9999) ∧ codeOk x.2 = true
theorem batch_iff (m : List Lt) : batchOk m = true ↔ m.length ≤ 60 ∧ (∀ x ∈ m, ltFine x) ∧ (m.map (·.1)).Nodup := by
  rw [batchOk_iff]
  constructor
  · rintro ⟨h1, h2⟩
    have h3 : ∀ i (hi : i < m.length), ltFine m[i] ∧ ∀ (j : Nat) (x : Lt), j < i → m[j]? = some x → ¬ x.1 = m[i].1 := fun i hi => by
      have := h2 i hi
      rw [ltOkAt_eq (List.getElem?_eq_getElem hi)] at this
      simp only [Bool.and_eq_true, decide_eq_true_eq] at this
      exact ⟨⟨this.1.1, this.1.2⟩, idNew_iff.1 this.2⟩
    refine ⟨h1, fun x hx => ?_, ?_⟩
    · obtain ⟨i, hi, rfl⟩ := List.getElem_of_mem hx
      exact (h3 i hi).1
    · rw [List.nodup_iff_pairwise_ne, List.pairwise_iff_getElem]
      intro i j hi hj hlt e
      simp only [List.length_map] at hi hj
      simp only [List.getElem_map] at e
      exact (h3 j hj).2 i m[i] hlt (List.getElem?_eq_getElem hi) e
  · rintro ⟨h1, h2, h3⟩
    refine ⟨h1, fun i hi => ?_⟩
    rw [ltOkAt_eq (List.getElem?_eq_getElem hi)]
    have h4 := h2 m[i] (List.getElem_mem hi)
    simp only [Bool.and_eq_true, decide_eq_true_eq]
    refine ⟨⟨h4.1, h4.2⟩, idNew_iff.2 fun j x hj hx e => ?_⟩
    rw [List.nodup_iff_pairwise_ne, List.pairwise_iff_getElem] at h3
    obtain ⟨hj', rfl⟩ := List.getElem?_eq_some_iff.1 hx
    exact h3 j i (by simpa using hj') (by simpa using hi) hj (by simpa using e)
theorem batch_perm {m m' : List Lt} (h : m.Perm m') (hm : batchOk m = true) : batchOk m' = true := by
  rw [batch_iff] at hm ⊢
  exact ⟨by rw [← h.length_eq]; exact hm.1, fun x hx => hm.2.1 x (h.mem_iff.2 hx), (h.map _).nodup_iff.1 hm.2.2⟩
theorem batch_sub {m m' : List Lt} (h : m'.Sublist m) (hm : batchOk m = true) : batchOk m' = true := by
  rw [batch_iff] at hm ⊢
  exact ⟨Nat.le_trans h.length_le hm.1, fun x hx => hm.2.1 x (h.subset hx), (h.map _).nodup hm.2.2⟩
/-- The letters of the round and the others are all letters. -/
theorem has_iff {l : List Str} {c : Str} : (strIdx l c).isSome = true ↔ c ∈ l := by
  cases hx : strIdx l c with
  | none =>
    refine Iff.intro (fun h => by cases h) fun hm => ?_
    obtain ⟨i, hi, e⟩ := List.getElem_of_mem hm
    exact absurd e (strIdx_none.1 hx i _ (List.getElem?_eq_getElem hi))
  | some q => exact ⟨fun _ => List.mem_of_getElem? (strIdx_some.1 hx).1, fun _ => rfl⟩
theorem round_ranked {l : List Str} (hn : l.Nodup) (m : List Lt) : (roundOf l m).Perm (m.filter fun x => (strIdx l x.2).isSome) := by
  induction l with
  | nil =>
    rw [show m.filter (fun x => (strIdx [] x.2).isSome) = [] from by
      rw [List.filter_eq_nil_iff]
      intro x _ h
      have := has_iff.1 h
      cases this]
    exact List.Perm.refl _
  | cons a l ih =>
    have hn' := List.nodup_cons.1 hn
    rw [show roundOf (a :: l) m = m.filter (fun x => decide (x.2 = a)) ++ roundOf l m from rfl]
    refine (List.Perm.append_left _ (ih hn'.2)).trans ?_
    have : ∀ m : List Lt, (m.filter (fun x => decide (x.2 = a)) ++ m.filter fun x => (strIdx l x.2).isSome).Perm (m.filter fun x => (strIdx (a :: l) x.2).isSome) := by
      intro m
      induction m with
      | nil => exact List.Perm.refl _
      | cons x m ih =>
        by_cases h1 : x.2 = a
        · have h2 : (strIdx l x.2).isSome = false := Bool.eq_false_iff.2 fun h => hn'.1 (h1 ▸ has_iff.1 h)
          have h3 : (strIdx (a :: l) x.2).isSome = true := has_iff.2 (by simp [h1])
          rw [List.filter_cons_of_pos (by simp [h1]), List.filter_cons_of_neg (by simp [h2]), List.filter_cons_of_pos (p := fun x : Lt => (strIdx (a :: l) x.2).isSome) h3]
          exact List.Perm.cons x ih
        · by_cases h2 : (strIdx l x.2).isSome = true
          · have h3 : (strIdx (a :: l) x.2).isSome = true := has_iff.2 (List.mem_cons_of_mem _ (has_iff.1 h2))
            rw [List.filter_cons_of_neg (by simp [h1]), List.filter_cons_of_pos (p := fun x : Lt => (strIdx l x.2).isSome) h2, List.filter_cons_of_pos (p := fun x : Lt => (strIdx (a :: l) x.2).isSome) h3]
            exact List.perm_middle.trans (List.Perm.cons x ih)
          · have h3 : ¬ (strIdx (a :: l) x.2).isSome = true := fun h => by
              rcases List.mem_cons.1 (has_iff.1 h) with h | h
              · exact h1 h
              · exact h2 (has_iff.2 h)
            rw [List.filter_cons_of_neg (by simp [h1]), List.filter_cons_of_neg (p := fun x : Lt => (strIdx l x.2).isSome) h2, List.filter_cons_of_neg (p := fun x : Lt => (strIdx (a :: l) x.2).isSome) h3]
            exact ih
    exact this m
theorem round_perm {l : List Str} (hn : l.Nodup) (m : List Lt) : (roundOf l m ++ m.filter fun x => !(strIdx l x.2).isSome).Perm m :=
  (List.Perm.append_right _ (round_ranked hn m)).trans (List.filter_append_perm _ m)
theorem ord_le {l : List Str} : ∀ {m : List Lt} {a b : Int}, a ≤ b → ordOk l b m = true → ordOk l a m = true
  | [], _, _, _, _ => rfl
  | x :: m, a, b, hab, h => by
    unfold ordOk at h ⊢
    by_cases hx : idxInt (strIdx l x.2) < b
    · rw [if_pos hx] at h; cases h
    · rw [if_neg hx] at h; rw [if_neg (by omega)]; exact h
/-- Letters in the order of the round: what that says. -/
theorem ord_iff {l : List Str} : ∀ {m : List Lt} {a : Int}, ordOk l a m = true ↔ (∀ x ∈ m, a ≤ idxInt (strIdx l x.2)) ∧ m.Pairwise fun x y => idxInt (strIdx l x.2) ≤ idxInt (strIdx l y.2)
  | [], _ => by simp [ordOk]
  | x :: m, a => by
    unfold ordOk
    by_cases hx : idxInt (strIdx l x.2) < a
    · rw [if_pos hx]
      constructor
      · intro h; cases h
      · intro h; have := h.1 x (by simp); omega
    · rw [if_neg hx, ord_iff, List.pairwise_cons]
      constructor
      · rintro ⟨h1, h2⟩
        refine ⟨fun y hy => ?_, h1, h2⟩
        rcases List.mem_cons.1 hy with rfl | hy
        · omega
        · have := h1 y hy; omega
      · rintro ⟨_, h2, h3⟩; exact ⟨h2, h3⟩
theorem round_sorted {l : List Str} (hn : l.Nodup) (m : List Lt) : ordOk l 0 (roundOf l m) = true := by
  rw [ord_iff]
  constructor
  · intro x hx
    have := (mem_round.1 hx).1
    cases h : strIdx l x.2 with
    | none =>
      obtain ⟨i, hi, e⟩ := List.getElem_of_mem this
      exact absurd e (strIdx_none.1 h i _ (List.getElem?_eq_getElem hi))
    | some q => show (0 : Int) ≤ (q : Int); omega
  · have h : ∀ (k : Nat) (r : List Str), l = l.take k ++ r → k + r.length = l.length → (roundOf r m).Pairwise (fun x y => idxInt (strIdx l x.2) ≤ idxInt (strIdx l y.2)) ∧ ∀ x ∈ roundOf r m, (k : Int) ≤ idxInt (strIdx l x.2) := by
      intro k r
      induction r generalizing k with
      | nil => intro _ _; exact ⟨List.Pairwise.nil, fun x hx => by cases hx⟩
      | cons c r ih =>
        intro he hk
        simp only [List.length_cons] at hk
        have hkl : k < l.length := by omega
        have hc : l[k]? = some c := by
          rw [he, List.getElem?_append_right (by rw [List.length_take]; omega), List.length_take, Nat.min_eq_left (by omega), Nat.sub_self]; rfl
        have hidx : strIdx l c = some k := (strIdx_nodup hn).2 hc
        have he2 : l = l.take (k + 1) ++ r := by
          rw [List.take_add_one, hc]
          simp only [Option.toList_some, List.append_assoc, List.singleton_append]
          exact he
        obtain ⟨i1, i2⟩ := ih (k + 1) he2 (by omega)
        have hf : ∀ x ∈ m.filter (fun x => decide (x.2 = c)), idxInt (strIdx l x.2) = (k : Int) := fun x hx => by
          have := of_decide_eq_true (List.mem_filter.1 hx).2
          rw [this, hidx]; rfl
        rw [show roundOf (c :: r) m = m.filter (fun x => decide (x.2 = c)) ++ roundOf r m from rfl]
        refine ⟨List.pairwise_append.2 ⟨?_, i1, fun x hx y hy => ?_⟩, fun x hx => ?_⟩
        · exact List.Pairwise.imp_of_mem (R := fun _ _ => True) (fun hx hy _ => by rw [hf _ hx, hf _ hy]; exact Int.le_refl _) (List.pairwise_of_forall (fun _ _ => trivial))
        · rw [hf x hx]; have := i2 y hy; omega
        · rcases List.mem_append.1 hx with hx | hx
          · rw [hf x hx]; exact Int.le_refl _
          · have := i2 x hx; omega
    exact (h 0 l (by simp) (by simp)).1
/-- Letters that are in order are left as they are. -/
theorem round_id {l : List Str} (hn : l.Nodup) : ∀ m : List Lt, ordOk l 0 m = true → roundOf l m = m := by
  intro m h
  rw [ord_iff] at h
  have h2 : ∀ (r : List Str) (k : Nat) (m : List Lt), l = l.take k ++ r → k + r.length = l.length → (∀ x ∈ m, (k : Int) ≤ idxInt (strIdx l x.2)) → m.Pairwise (fun x y => idxInt (strIdx l x.2) ≤ idxInt (strIdx l y.2)) → roundOf r m = m := by
    intro r
    induction r with
    | nil =>
      intro k m _ hk h1 _
      cases m with
      | nil => rfl
      | cons x m =>
        exfalso
        have := h1 x (by simp)
        simp only [List.length_nil, Nat.add_zero] at hk
        cases hx : strIdx l x.2 with
        | none => rw [hx] at this; have this : (k : Int) ≤ -1 := this; omega
        | some q =>
          have hq := strIdx_lt hx
          rw [hx] at this
          have : (k : Int) ≤ (q : Int) := this
          omega
    | cons c r ih =>
      intro k m he hk h1 hp
      simp only [List.length_cons] at hk
      have hc : l[k]? = some c := by
        rw [he, List.getElem?_append_right (by rw [List.length_take]; omega), List.length_take, Nat.min_eq_left (by omega), Nat.sub_self]; rfl
      have hidx : strIdx l c = some k := (strIdx_nodup hn).2 hc
      have he2 : l = l.take (k + 1) ++ r := by
        rw [List.take_add_one, hc]
        simp only [Option.toList_some, List.append_assoc, List.singleton_append]
        exact he
      have heq : ∀ x : Lt, (x.2 = c) ↔ idxInt (strIdx l x.2) = (k : Int) := fun x => by
        constructor
        · intro e; rw [e, hidx]; rfl
        · intro e
          cases hx : strIdx l x.2 with
          | none => rw [hx] at e; have e : (-1 : Int) = (k : Int) := e; omega
          | some q =>
            rw [hx] at e
            have : (q : Int) = (k : Int) := e
            have hqk : q = k := by omega
            subst hqk
            have := (strIdx_nodup hn).1 hx
            rw [hc] at this; injection this with this; exact this.symm
      -- the letters of c stand first
      have hsplit : ∀ m : List Lt, (∀ x ∈ m, (k : Int) ≤ idxInt (strIdx l x.2)) → m.Pairwise (fun x y => idxInt (strIdx l x.2) ≤ idxInt (strIdx l y.2)) → m = m.filter (fun x => decide (x.2 = c)) ++ m.filter fun x => !decide (x.2 = c) := by
        intro m
        induction m with
        | nil => intro _ _; rfl
        | cons x m ihm =>
          intro h1 hp
          have hp' := List.pairwise_cons.1 hp
          have ih2 := ihm (fun y hy => h1 y (by simp [hy])) hp'.2
          by_cases hx : x.2 = c
          · simp only [List.filter_cons, hx, decide_true, if_pos, Bool.not_true]
            rw [List.cons_append]
            exact congrArg (List.cons x) ih2
          · have hnone : m.filter (fun x => decide (x.2 = c)) = [] := by
              rw [List.filter_eq_nil_iff]
              intro y hy he
              have e1 := (heq y).1 (of_decide_eq_true he)
              have e2 := hp'.1 y hy
              have e3 := h1 x (by simp)
              exact hx ((heq x).2 (by omega))
            rw [hnone, List.nil_append] at ih2
            simp only [List.filter_cons, hx, decide_false, Bool.not_false, if_true]
            rw [hnone, ← ih2]; rfl
      have hs := hsplit m h1 hp
      rw [show roundOf (c :: r) m = m.filter (fun x => decide (x.2 = c)) ++ roundOf r m from rfl]
      have hrest : roundOf r m = m.filter fun x => !decide (x.2 = c) := by
        have e1 : roundOf r m = roundOf r (m.filter fun x => !decide (x.2 = c)) := flatMap_congr' fun d hd => by
          rw [List.filter_filter]
          refine List.filter_congr fun x _ => ?_
          by_cases hx : x.2 = d
          · have hne : ¬ d = c := fun e => by
              subst e
              have hn2 : (l.take k ++ d :: r).Nodup := he ▸ hn
              exact (List.nodup_cons.1 (List.nodup_append.1 hn2).2.1).1 hd
            simp [hx, hne]
          · simp [hx]
        rw [e1]
        refine ih (k + 1) _ he2 (by omega) (fun x hx => ?_) (hp.sublist List.filter_sublist)
        obtain ⟨hm, hne⟩ := List.mem_filter.1 hx
        have h3 := h1 x hm
        have h4 : ¬ idxInt (strIdx l x.2) = (k : Int) := fun e => by
          have := (heq x).2 e
          simp [this] at hne
        omega
      rw [hrest, ← hs]
  exact h2 l 0 m (by simp) (by simp) h.1 h.2
end Go.Proofs.Ytjibjoapbjojlaa
