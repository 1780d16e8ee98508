/-
  A point of a round moved: the plain list, and one element put into a slice of the walk's own that has room for it (slices.Insert).
-/
import Derived.Test.YtkhcjgkjfmeidaaPlJq
import Derived.Deep.DeepAppendRoom
namespace Go.Proofs.Ytkhcjgkjfmeidaa
open Go.RowKit

/-- A list with the element at f taken to t. -/
def moveL (l : List Str) (f t : Nat) : List Str := (l.eraseIdx f).take t ++ ((l[f]?).toList ++ (l.eraseIdx f).drop t)
def moveR (b p : Int) (l : List Str) (f t : Int) : PlR := if planOk b p l && decide (0 ≤ f ∧ f < (l.length : Int) ∧ 0 ≤ t ∧ t < (l.length : Int)) then ⟨b, p, moveL l f.toNat t.toNat, true⟩ else noPlR

theorem moveL_len {l : List Str} {f t : Nat} (hf : f < l.length) (ht : t < l.length) : (moveL l f t).length = l.length := by
  unfold moveL
  rw [List.getElem?_eq_getElem hf]
  simp only [Option.toList, List.length_append, List.length_take, List.length_drop, List.length_eraseIdx, hf, if_true, List.length_cons, List.length_nil]
  omega
theorem moveR_len {b p : Int} {l : List Str} {f t : Int} (h : l.length ≤ 1048576) : (moveR b p l f t).l.length ≤ 1048576 := by
  unfold moveR
  split
  · rename_i hh
    simp only [Bool.and_eq_true, decide_eq_true_eq] at hh
    show (moveL l f.toNat t.toNat).length ≤ _
    rw [moveL_len (by omega) (by omega)]; exact h
  · exact Nat.zero_le _
theorem erase_skip {l : List Str} {f : Nat} (hf : f < l.length) : (l.take (f + 1)).eraseIdx f = (l.take f).eraseIdx f := by
  have h0 : (l.take f).length = f := by rw [List.length_take]; omega
  have h1 : (l.take f).eraseIdx f = l.take f := List.eraseIdx_of_length_le (by omega)
  rw [h1, List.take_add_one, List.getElem?_eq_getElem hf, List.eraseIdx_append_of_length_le (by omega), h0, Nat.sub_self]
  simp
theorem erase_take {l : List Str} {f k : Nat} {x : Str} (hk : l[k]? = some x) (hne : k ≠ f) : (l.take (k + 1)).eraseIdx f = (l.take k).eraseIdx f ++ [x] := by
  have hlt := (List.getElem?_eq_some_iff.1 hk).1
  rw [List.take_add_one, hk]
  rcases Nat.lt_or_ge f k with h | h
  · rw [List.eraseIdx_append_of_lt_length (by simp; omega)]; rfl
  · rw [List.eraseIdx_of_length_le (by simp; omega), List.eraseIdx_of_length_le (by simp; omega)]; rfl

/-- Cells of a row, stored one behind the other. -/
def layC : Array Value → Nat → List Value → Array Value
  | cur, _, [] => cur
  | cur, o, v :: r => layC (cur.setIfInBounds o v) (o + 1) r
theorem layC_size : ∀ (vs : List Value) (cur : Array Value) (o : Nat), (layC cur o vs).size = cur.size
  | [], _, _ => rfl
  | v :: r, cur, o => by rw [layC, layC_size r]; simp
theorem layC_get : ∀ (vs : List Value) (cur : Array Value) (o j : Nat), o + vs.length ≤ cur.size → (layC cur o vs)[j]? = if o ≤ j ∧ j < o + vs.length then vs[j - o]? else cur[j]?
  | [], cur, o, j, _ => by simp only [layC, List.length_nil, Nat.add_zero]; rw [if_neg (by omega)]
  | v :: r, cur, o, j, h => by
    rw [List.length_cons] at h
    rw [layC, layC_get r _ (o + 1) j (by simp; omega), List.length_cons]
    by_cases h1 : j = o
    · subst h1
      rw [if_neg (by omega), if_pos (by omega)]
      simp [Array.getElem?_setIfInBounds_self_of_lt (show j < cur.size by omega)]
    · by_cases h2 : o + 1 ≤ j ∧ j < o + 1 + r.length
      · rw [if_pos h2, if_pos (by omega), show j - o = (j - (o + 1)) + 1 from by omega, List.getElem?_cons_succ]
      · rw [if_neg h2, if_neg (by omega), Array.getElem?_setIfInBounds_ne (by omega)]
theorem heap_setCells {g : Nat} {e : TypeId} : ∀ (vs : List Value) (o : Nat) (w : World) (cur : Array Value), w.heap[g]? = some (.cells cur e (0, 0)) → (w.setCells g o vs).heap[g]? = some (.cells (layC cur o vs) e (0, 0))
  | [], _, _, _, h => h
  | v :: r, o, w, cur, h => by
    rw [World.setCells, layC]
    exact heap_setCells r (o + 1) _ _ (heap_setCell_same w g o cur e v h)
theorem grown_setCells {g : Nat} {w0 : World} : ∀ (vs : List Value) (o : Nat) (w : World), w0.grownBy w (some g) → w0.grownBy (w.setCells g o vs) (some g)
  | [], _, _, h => h
  | v :: r, o, w, h => by
    rw [World.setCells]
    exact grown_setCells r (o + 1) _ (grown_setCell h (.inl rfl) v)
theorem strFlat (l : List Str) : l.flatMap strEnc = l.map Value.string := by
  induction l with
  | nil => rfl
  | cons x l ih => rw [List.flatMap_cons, ih]; rfl
theorem ins_get {l : List Str} {i m : Nat} {x : Str} (hm : m = l.length) (hi : i ≤ m) (j : Nat) : ((l.take i ++ x :: l.drop i).map Value.string)[j]? = if j < i then (l.map Value.string)[j]? else if j = i then some (.string x) else (l.map Value.string)[j - 1]? := by
  subst hm
  have hlen : (l.take i).length = i := by rw [List.length_take]; omega
  simp only [List.map_append, List.map_cons, List.map_take, List.map_drop]
  have hlen' : ((l.map Value.string).take i).length = i := by rw [List.length_take, List.length_map]; omega
  by_cases h1 : j < i
  · rw [if_pos h1, List.getElem?_append_left (by omega), List.getElem?_take, if_pos h1]
  · rw [if_neg h1, List.getElem?_append_right (by omega), hlen']
    by_cases h2 : j = i
    · subst h2; simp
    · rw [if_neg h2, show j - i = (j - 1 - i) + 1 from by omega, List.getElem?_cons_succ, List.getElem?_drop, show i + (j - 1 - i) = j - 1 from by omega]

/-- One element put into a row that has room for it. -/
theorem own_insert1 {w : World} {base g m cap i : Nat} {e : TypeId} {l : List Str} {x : Str} (h : Own w base e 1 strEnc (.slice (some ⟨g, 0, none⟩) m cap) l) (hm : m = l.length) (hi : i ≤ m) (hroom : m + 1 ≤ cap) :
    Own ((w.drew.setCells g (0 + (i + 1)) ((l.map Value.string).drop i)).setCells g (0 + i) [.string x]) base e 1 strEnc (.slice (some ⟨g, 0, none⟩) (m + 1) cap) (l.take i ++ x :: l.drop i) ∧
      w.grownBy ((w.drew.setCells g (0 + (i + 1)) ((l.map Value.string).drop i)).setCells g (0 + i) [.string x]) (some g) := by
  refine ⟨?_, grown_setCells _ _ _ (grown_setCells _ _ _ ⟨rfl, rfl, rfl, Nat.le_refl _, fun _ _ _ => rfl⟩)⟩
  have hlen : (l.take i ++ x :: l.drop i).length = m + 1 := by rw [List.length_append, List.length_cons, List.length_take, List.length_drop]; omega
  unfold Own at *
  rw [hlen, strFlat]
  rw [strFlat, ← hm] at h
  rcases h.2 with ⟨h', _⟩ | ⟨g', cap', cur, h', hb, hg, hnc, hcm, hcs, htake⟩
  · cases h'
  · cases h'
    rw [Nat.mul_one] at hcs htake
    have hd : ((l.map Value.string).drop i).length = m - i := by rw [List.length_drop, List.length_map]; omega
    refine ⟨by rw [List.length_map, hlen, Nat.mul_one], .inr ⟨g, cap, _, rfl, hb, heap_setCells _ _ _ _ (heap_setCells _ _ _ _ hg), hroom, hcm, by rw [layC_size, layC_size, hcs, Nat.mul_one], ?_⟩⟩
    rw [Nat.mul_one]
    apply List.ext_getElem?
    intro j
    rw [ins_get hm hi j, List.getElem?_take]
    have hcur : ∀ k, k < m → cur.toList[k]? = (l.map Value.string)[k]? := fun k hk => by rw [← htake, List.getElem?_take, if_pos hk]
    split
    · rename_i hj
      rw [Array.getElem?_toList, layC_get _ _ _ _ (by rw [layC_size]; simp; omega)]
      by_cases h1 : j < i
      · rw [if_pos h1, if_neg (by omega), layC_get _ _ _ _ (by rw [hd]; omega), if_neg (by omega), ← Array.getElem?_toList]
        exact hcur j (by omega)
      · rw [if_neg h1]
        by_cases h2 : j = i
        · subst h2
          rw [if_pos rfl, if_pos (by simp)]
          simp
        · rw [if_neg h2, if_neg (by simp; omega), layC_get _ _ _ _ (by rw [hd]; omega), if_pos (by rw [hd]; omega), List.getElem?_drop]
          congr 1
          omega
    · rename_i hj
      rw [if_neg (by omega), if_neg (by omega), List.getElem?_eq_none (by rw [List.length_map]; omega)]

theorem own_block {w : World} {base g m cap : Nat} {e : TypeId} {l : List Str} (h : Own w base e 1 strEnc (.slice (some ⟨g, 0, none⟩) m cap) l) (hm : m = l.length) :
    ∃ cur : Array Value, w.heap[g]? = some (.cells cur e (0, 0)) ∧ cur.size = cap ∧ ∀ (j : Nat) (v : Value), (l.map Value.string)[j]? = some v → cur[j]? = some v := by
  unfold Own at h
  rw [strFlat, ← hm] at h
  rcases h.2 with ⟨h', _⟩ | ⟨g', cap', cur, h', hb, hg, hnc, hcm, hcs, htake⟩
  · cases h'
  · cases h'
    rw [Nat.mul_one] at hcs htake
    refine ⟨cur, hg, hcs, fun j v hj => ?_⟩
    rw [← htake, List.getElem?_take] at hj
    split at hj
    · rw [Array.getElem?_toList] at hj; exact hj
    · cases hj

theorem Pool.undrew {w0 w : World} {ps : List Piece} (h : Pool w0 w.drew ps) : Pool w0 w ps :=
  ⟨⟨h.below.os, h.below.tape, h.below.output, h.below.size, h.below.block⟩, fun p hp => ⟨p.keep w.drew w (Nat.le_refl _) (fun _ _ => rfl) (h.all p hp).1, (h.all p hp).2⟩, h.apart⟩

/-- append onto a list of texts of the pool that lies in a block, as a step of a region that draws; what is appended may be new. -/
theorem step_appendS {P : Program} {w0 w : World} {ps : List Piece} {ops : Array Oper} {o : Oper} {a : Act} {K : Act → World → Prop} {Q : Exit → Act → World → Prop} {F : Prop} (s x : Operand) {k n c kc : Nat} {ad0 : Addr} {l ys : List Str} {A : Option Addr} {t : TypeId}
    (H : Pool w0 w ps) (i : Nat) (hi : ps[i]? = some (ownP 9 1 strEnc (.slice (some ad0) k kc) l)) (hy : Rd w 1 strEnc A ys) (hn : n = ys.length) (hnil : A = none → c = 0)
    (hinfo : (P.info? 9).map (fun i => (i.zero, i.size, i.bytes)) = some (some (.string ByteArray.empty), 1, 16)) (ht : P.underlying t = some (.slice 9))
    (ho : (o.guard, o.op) = (none, .call { callee := .builtin .append, args := #[s, x], argTypes := #[t, t] }))
    (hs : a.eval s = .slice (some ad0) k kc) (hx : a.eval x = .slice A n c) (hk : k = l.length) (m : Nat) (hm : m = k + n) (hl : m * 16 ≤ 140737488355328)
    (h : ∀ g c' w', Hid (Pool w0 w' (ps.set i (ownP 9 1 strEnc (.slice (some ⟨g, 0, none⟩) m c') (l ++ ys)))) → K (a.put o.dst (.slice (some ⟨g, 0, none⟩) m c')) w') :
    if Region.wanted o (yielded ops a.tmps) = true then Oper.wp P o a w K Q else F := by
  subst hm
  injection ho with hgd hop
  refine step_appendL s x t 9 hinfo ht rfl (by decide) hgd hop hs hx hk (H.own i hi) hn hnil strEnc_len hy (fun y _ u hu => by simp [strEnc] at hu; subst hu; rfl) hl (by omega) (Nat.zero_le _) fun A' c' w' ho hg hat => ?_
  have hA : ∃ g, A' = some ⟨g, 0, none⟩ := by
    rcases ho.2 with ⟨h', _⟩ | ⟨g', cap', cur, h', _⟩
    · injection h' with h1
      subst h1
      rcases hat with h | h <;> cases h
    · injection h' with h1
      exact ⟨_, h1⟩
  obtain ⟨g, rfl⟩ := hA
  refine h g c' w' (H.append i hi ho hg fun k e => ?_)
  rcases hat with h | h
  · exact .inl (h.symm.trans e)
  · exact .inr (by have := Option.some.inj (h.symm.trans e); omega)

theorem ownLit1 (w : World) (x : Str) (t : TypeId) : Own (w.alloc (.cells #[.string x] t)) w.heap.size t 1 strEnc (.slice (some ⟨w.heap.size, 0, none⟩) 1 1) [x] := World.ownsRow_lit w #[.string x] 1 (Nat.le_refl _) (by unfold maxLen; omega) rfl

theorem insertAt {w0 w : World} {ps : List Piece} {g m cap vb : Nat} {l : List Str} {x : Str} (i : Nat) (H : Pool w0 w (ownP 9 1 strEnc (.slice (some ⟨g, 0, none⟩) m cap) l :: ownP 9 1 strEnc (.slice (some ⟨vb, 0, none⟩) 1 1) [x] :: ps)) (hm : m = l.length) (hi : i ≤ m) (hroom : m + 1 ≤ cap) (hc : cap ≤ 9223372036854775807) :
    Calls Try.prog 29 #[.slice (some ⟨g, 0, none⟩) m cap, .int .i64 i, .slice (some ⟨vb, 0, none⟩) 1 1] w fun e w' => e = .returned (.slice (some ⟨g, 0, none⟩) (m + 1) cap) ∧ Hid (Pool w0 w' (ownP 9 1 strEnc (.slice (some ⟨g, 0, none⟩) (m + 1) cap) (l.take i ++ x :: l.drop i) :: ps)) := by
  obtain ⟨cur, hg, hcs, hcur⟩ := own_block (H.own 0 rfl) hm
  obtain ⟨cv, hv, hvs, hvc⟩ := own_block (H.own 1 rfl) rfl
  have hne : vb ≠ g := fun e => by
    have := List.pairwise_cons.1 H.apart
    exact this.1 (ownP 9 1 strEnc (.slice (some ⟨vb, 0, none⟩) 1 1) [x]) (List.mem_cons_self ..) g (List.mem_singleton.2 rfl) (List.mem_singleton.2 e.symm)
  have hcv : ∀ (j : Nat) (v : Value), [Value.string x][j]? = some v → w.cell? ⟨vb, 0 + j, none⟩ = some v := fun j v hj => by
    rw [Nat.zero_add, (cells_of_heap hv j).1]; exact hvc j v hj
  have h1 : ∀ v ∈ l.map Value.string, v.oneCell' = true := fun v hv => by
    obtain ⟨y, _, rfl⟩ := List.mem_map.1 hv; rfl
  have h2 : ∀ v ∈ [Value.string x], v.oneCell' = true := fun v hv => by simp at hv; subst hv; rfl
  have hins := own_insert1 (x := x) (H.own 0 rfl) hm hi hroom
  have fin : Pool w0 ((w.drew.setCells g (0 + (i + 1)) ((l.map Value.string).drop i)).setCells g (0 + i) [.string x]) (ownP 9 1 strEnc (.slice (some ⟨g, 0, none⟩) (m + 1) cap) (l.take i ++ x :: l.drop i) :: ps) := (H.append 0 rfl hins.1 hins.2 (fun k e => .inl e)).drop 1
  by_cases hlt : i < m
  · refine (Try.slices_Insert_string_shift g 0 m cap i vb 0 1 1 (l.map Value.string) [.string x] w hlt (by omega) hroom hc hne (by rw [List.length_map]; exact hm.symm) rfl
      (fun j v hj => by rw [Nat.zero_add, (cells_of_heap hg j).1]; exact hcur j v hj) (fun j hj => by rw [Nat.zero_add, (cells_of_heap hg j).1, Array.getElem?_eq_getElem (by omega)]; rfl) (fun j hj => (cells_of_heap hg _).2)
      hcv h1 h2 9 9 1 cap (by unfold World.shape?; rw [hv]; simp [hvs]) (by unfold World.shape?; rw [hg]; simp [hcs]) (by omega) (cells_of_heap hv _).2 (cells_of_heap hv _).2).mono ?_
    rintro e w' ⟨rfl, rfl⟩
    exact ⟨rfl, fin⟩
  · obtain rfl : i = m := by omega
    refine (Try.slices_Insert_string_end_room g 0 i cap vb 0 1 1 [.string x] w (by omega) hroom hc rfl
      (fun j hj => by rw [Nat.zero_add, (cells_of_heap hg _).1, Array.getElem?_eq_getElem (by omega)]; rfl) (fun j hj => (cells_of_heap hg _).2) hcv h2).mono ?_
    rintro e w' ⟨rfl, rfl⟩
    refine ⟨rfl, ?_⟩
    have hd : (l.map Value.string).drop i = [] := List.drop_eq_nil_of_le (by rw [List.length_map]; omega)
    have e1 : (w.setCells g (0 + i) [.string x]).drew = (w.drew.setCells g (0 + (i + 1)) ((l.map Value.string).drop i)).setCells g (0 + i) [.string x] := by rw [hd]; rfl
    have hf := fin
    rw [← e1] at hf
    exact hf.undrew
end Go.Proofs.Ytkhcjgkjfmeidaa
