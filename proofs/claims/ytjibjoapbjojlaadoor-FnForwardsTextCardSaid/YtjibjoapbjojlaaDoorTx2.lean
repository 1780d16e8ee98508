/-
  Texts cut by the library's functions at one byte; numbers read: the program's and the reference's.
-/
import Derived.Test.YtjibjoapbjojlaaDoorTx1
import Derived.Test.YtjibjoapbjojlaaDoorShelf
import Derived.Test.YtjibjoapbjojlaaDoorShelf2
import Derived.Lib.IndexBytes
import Derived.Lib.SplitLaws
import Derived.Lib.CountLaws
import Derived.Shelf.Strings.SplitCore
import Derived.BigQuiet
namespace Go.Proofs.YtjibjoapbjojlaaDoor
open Go.RowKit

/-! ### Parts -/
theorem cutL_count (c : UInt8) : ∀ l : List UInt8, (cutL c l).length = l.count c + 1
  | [] => by simp [cutL]
  | b :: l => by
    have ih := cutL_count c l
    unfold cutL
    by_cases e : b = c
    · rw [if_pos e, e]; simp [ih]
    · rw [if_neg e, List.count_cons_of_ne e]
      split
      · rename_i h; exact absurd h (cutL_ne c l)
      · rename_i p r h
        rw [h] at ih
        simpa using ih
theorem cSp_size : cSp.size = 1 := rfl
theorem indexB_sp (s : Str) : Lib.indexB s cSp = findB 32 s := by
  rw [Lib.one s cSp rfl]; rfl
theorem split_parts : ∀ (k : Nat) (s : Str), s.size ≤ k → Lib.splitB cSp 0 (Lib.countB s cSp) s = parts s := by
  intro k
  induction k with
  | zero =>
    intro s hs
    have hf : Lib.indexB s cSp = -1 := by
      rw [indexB_sp]
      exact find_none fun j hj => absurd hj (by omega)
    rw [Lib.splitB_miss _ _ _ _ hf]
    have h0 : s.data.toList = [] := List.eq_nil_of_length_eq_zero (by rw [size_data]; omega)
    unfold parts
    rw [h0, show cutL 32 [] = [[]] from rfl, List.map_cons, List.map_nil, ← h0, strOf_self]
  | succ k ih =>
    intro s hs
    by_cases hn : findB 32 s < 0
    · have hf : Lib.indexB s cSp = -1 := by rw [indexB_sp]; exact findB_neg hn
      rw [Lib.splitB_miss _ _ _ _ hf]
      unfold parts
      rw [cutL_miss (find_miss hn), List.map_cons, List.map_nil, strOf_self]
    · have h0 : 0 ≤ findB 32 s := by omega
      have hlt := findB_lt h0
      have hd := cut_data h0
      have hb := bef_clean h0
      obtain ⟨i, hi⟩ := Int.eq_ofNat_of_zero_le h0
      have hf : Lib.indexB s cSp = i := by rw [indexB_sp, hi]
      have hi2 : (findB 32 s).toNat = i := by rw [hi]; rfl
      rw [hi2] at hlt
      rw [Lib.countB_hit s cSp i (Nat.le_refl _) hf, Nat.add_comm 1, Lib.splitB_hit _ _ _ _ _ hf, cSp_size]
      have e1 : s.extract (i + 1) s.size = aftB 32 s := by unfold aftB; rw [hi2]
      have e2 : s.extract 0 (i + 0) = befB 32 s := by unfold befB; rw [hi2]; rfl
      have hz : (aftB 32 s).size ≤ k := by unfold aftB; rw [hi2, ByteArray.size_extract]; omega
      rw [e1, e2, ih _ hz]
      unfold parts
      rw [hd, cutL_hit _ hb, List.map_cons, strOf_self]
theorem count_sp (s : Str) : Lib.countB s cSp = Lib.countByte s.data.toList 32 := by
  have h1 := Lib.splitB_all cSp (Nat.le_refl _) 0 _ s rfl
  rw [split_parts _ s (Nat.le_refl _)] at h1
  unfold parts at h1
  rw [List.length_map, cutL_count] at h1
  show _ = s.data.toList.count 32
  omega
theorem flat_str : ∀ l : List Str, l.flatMap strEnc = l.map Value.string
  | [] => rfl
  | x :: l => by rw [List.flatMap_cons, flat_str l]; rfl
theorem Own.strs (w : World) (l : List Str) (t : TypeId) (h : l.length ≤ maxLen) : Own (w.alloc (.cells (l.map Value.string).toArray t)) w.heap.size t 1 strEnc (.slice (some ⟨w.heap.size, 0, none⟩) l.length l.length) l := by
  unfold Own
  rw [flat_str]
  have := World.ownsRow_lit (w := w) (e := t) (size := 1) ((l.map Value.string).toArray) l.length (Nat.le_refl _) h (by simp)
  simpa using this

set_option maxHeartbeats 1000000 in
set_option maxRecDepth 100000 in
theorem implSplit (s : Str) (hs : s.size ≤ 1048576) (w : World) :
    Calls Tryd.prog 59 #[.string s, .string (⟨#[32]⟩ : Str)] w fun e w' => ∃ A n c, e = .returned (.slice A n c) ∧ Own w' w.heap.size 9 1 strEnc (.slice A n c) (parts s) ∧ Below w.heap.size w w' := by
  have hp := split_parts _ s (Nat.le_refl _)
  have hlen := Lib.splitB_all cSp (Nat.le_refl _) 0 _ s rfl
  have hle := Lib.countB_le cSp (Nat.le_refl _) s.size s (Nat.le_refl _)
  have c := Any.strings_genSplit_core Tryd.lays221 str_info s cSp 0 (-1) (Lib.countB s cSp + 1) w (by omega) (Nat.le_refl _) (Nat.zero_le _)
    (fun x cs _ => by rw [indexB_sp]; exact Tryd.strings_Index_one x 32 _) (by rw [count_sp]; exact Tryd.strings_Count_one s 32 w) (by decide) (by decide) (by rw [if_pos (by decide)]; omega)
  rw [Nat.add_sub_cancel, hlen, hp] at c
  rw [hp] at hlen
  have e2 : Lib.cellsOf (parts s) (Lib.countB s cSp + 1) = ((parts s).map Value.string).toArray := by rw [← hlen]; exact Lib.cellsOf_full _
  rw [e2, ← hlen] at c
  change Calls Tryd.prog 85 #[.string s, .string (⟨#[32]⟩ : Str), .int .i64 0, .int .i64 (-1)] w _ at c
  have HC := Lib.hid c
  have ho := Own.strs w (parts s) 9 (by have := parts_len s; unfold maxLen; omega)
  have HO := Lib.hid ho
  clear c hp hlen hle e2 ho
  go_enter Tryd.func59, Tryd.ntmps59
  go_wp2_with (go_at_call 85; refine HC.out.mono ?_; rintro e w' ⟨rfl, hw⟩; rw [hw])
  go_ret
  exact ⟨_, _, _, rfl, HO.out, (Below.refl _ _).alloc (Nat.le_refl _) _⟩

set_option maxHeartbeats 1000000 in
set_option maxRecDepth 100000 in
theorem cutLite (s : Str) (c : UInt8) (hs : s.size ≤ 1048576) (w : World) :
    Calls Tryd.prog 67 #[.string s, .string (⟨#[c]⟩ : Str)] w fun e w' => ∃ x y, e = .returned (.tuple #[.string x, .string y, .bool (decide (0 ≤ findB c s))]) ∧ (0 ≤ findB c s → x = befB c s ∧ y = aftB c s) ∧ ∃ n, w' = w.drewN n := by
  have K : Hid (∀ w, Calls Tryd.prog 94 #[.string s, .string (⟨#[c]⟩ : Str)] w fun e w' => e = .returned (.int .i64 (findB c s)) ∧ w' = w) := fun w => Tryd.stringslite_Index_one s c w
  by_cases h : findB c s < 0
  · have hd : decide (0 ≤ findB c s) = false := by simpa using h
    have hn := Lib.hid (findB_neg h)
    rw [hd]
    have hno : ¬ 0 ≤ findB c s := by omega
    have Hno := Lib.hid hno
    rw [hn.out] at K
    clear h hd hno
    go_enter Tryd.func67, Tryd.ntmps67
    go_wp2_with (go_at_call 94; refine (K.out _).mono ?_; rintro e w' ⟨rfl, rfl⟩)
    go_ret3
    exact ⟨_, _, rfl, fun e => absurd e (by have := Hno.out; omega), 0, rfl⟩
  · have h0 : 0 ≤ findB c s := by omega
    have hd : decide (0 ≤ findB c s) = true := by simpa using h0
    have hlt := findB_lt h0
    obtain ⟨i, hi⟩ := Int.eq_ofNat_of_zero_le h0
    have hi2 : (findB c s).toNat = i := by rw [hi]; rfl
    have Hb : Hid (s.extract 0 i = befB c s ∧ s.extract (i + 1) s.size = aftB c s) := by show _ ∧ _; unfold befB aftB; rw [hi2]; exact ⟨rfl, rfl⟩
    rw [hi2] at hlt
    rw [hd]
    rw [hi] at K
    have c1 : (0 : Int) ≤ (i : Int) := by omega
    have c2 : (i : Int) ≤ (s.size : Int) := by omega
    have c3 : (0 : Int) ≤ (i : Int) + 1 := by omega
    have c4 : (i : Int) + 1 ≤ (s.size : Int) := by omega
    have hz : (⟨#[c]⟩ : Str).size = 1 := rfl
    clear h h0 hd hi hi2
    go_enter Tryd.func67, Tryd.ntmps67
    go_wp2_with (go_at_call 94; refine (K.out _).mono ?_; rintro e w' ⟨rfl, rfl⟩)
    go_quiet (fail)
    go_wp2
    go_ret3
    exact ⟨_, _, rfl, fun _ => Hb.out, _, rfl⟩

set_option maxHeartbeats 1000000 in
set_option maxRecDepth 100000 in
theorem implCut (s : Str) (c : UInt8) (hs : s.size ≤ 1048576) (w : World) :
    Calls Tryd.prog 38 #[.string s, .string (⟨#[c]⟩ : Str)] w fun e w' => ∃ x y, e = .returned (.tuple #[.string x, .string y, .bool (decide (0 ≤ findB c s))]) ∧ (0 ≤ findB c s → x = befB c s ∧ y = aftB c s) ∧ ∃ n, w' = w.drewN n := by
  have K := fun w => cutLite s c hs w
  obtain ⟨b, hb⟩ : ∃ b, decide (0 ≤ findB c s) = b := ⟨_, rfl⟩
  rw [hb]
  rw [hb] at K
  have K := Lib.hid K
  clear hb
  go_enter Tryd.func38, Tryd.ntmps38
  go_wp2_with fail
  refine (K.out _).mono ?_
  rintro e w1 ⟨x, y, rfl, hxy, n, rfl⟩
  have Hxy := Lib.hid hxy
  clear hxy
  go_wp2
  go_ret3
  exact ⟨x, y, rfl, Hxy.out, n, rfl⟩

/-! ### Numbers -/
def numB (neg : Bool) (x : Str) : Bool := decide (1 ≤ x.size ∧ x.size ≤ 17) && allDig x && !(decide (x.data.toList.head? = some 48) && (neg || decide (1 < x.size)))
def numV (neg : Bool) (x : Str) : Int := if numB neg x then (if neg then - digVal x.data.toList else digVal x.data.toList) else 0
theorem num_neg {s x : Str} (h : s.data.toList = 45 :: x.data.toList) : numOk s.data.toList = numB true x ∧ numVal s.data.toList = numV true x := by
  have e : numOk s.data.toList = numB true x := by
    rw [h]
    unfold numOk numB allDig
    rw [if_pos (show (45 :: x.data.toList).head? = some (45 : UInt8) from rfl), List.tail_cons, size_data]
    simp
  refine ⟨e, ?_⟩
  unfold numVal numV
  rw [e, h, if_pos (show (45 :: x.data.toList).head? = some (45 : UInt8) from rfl), List.tail_cons, if_pos rfl]
theorem num_pos {s : Str} (h : ¬ s.data.toList.head? = some 45) : numOk s.data.toList = numB false s ∧ numVal s.data.toList = numV false s := by
  have e : numOk s.data.toList = numB false s := by
    unfold numOk numB allDig
    rw [if_neg h, size_data]
    simp
  refine ⟨e, ?_⟩
  unfold numVal numV
  rw [e, if_neg h]
  simp
theorem head_eq {x : Str} (h : 0 < x.size) : x.data.toList.head? = some x[0] := by
  rw [List.head?_eq_getElem?, List.getElem?_eq_getElem (show 0 < x.data.toList.length by rw [size_data]; exact h)]
  rfl
theorem numB_len {neg : Bool} {x : Str} (h : ¬ (1 ≤ x.size ∧ x.size ≤ 17)) : numB neg x = false ∧ numV neg x = 0 := by
  have e : numB neg x = false := by unfold numB; rw [decide_eq_false h]; rfl
  exact ⟨e, by unfold numV; rw [e]; rfl⟩
theorem numB_dig {neg : Bool} {x : Str} (h : allDig x = false) : numB neg x = false ∧ numV neg x = 0 := by
  have e : numB neg x = false := by unfold numB; rw [h]; simp
  exact ⟨e, by unfold numV; rw [e]; rfl⟩
theorem numB_zero {neg : Bool} {x : Str} (h0 : 0 < x.size) (h : x[0] = 48) (h1 : neg = true ∨ 1 < x.size) : numB neg x = false ∧ numV neg x = 0 := by
  have e : numB neg x = false := by
    unfold numB
    rw [head_eq h0, h]
    rcases h1 with rfl | h1
    · simp
    · simp [h1]
  exact ⟨e, by unfold numV; rw [e]; rfl⟩
theorem numB_ok {neg : Bool} {x : Str} (h0 : 0 < x.size) (h1 : x.size ≤ 17) (hd : allDig x = true) (h : ¬ x[0] = 48 ∨ (neg = false ∧ ¬ 1 < x.size)) : numB neg x = true ∧ numV neg x = if neg then - digVal x.data.toList else digVal x.data.toList := by
  have e : numB neg x = true := by
    unfold numB
    rw [head_eq h0, hd, decide_eq_true (show 1 ≤ x.size ∧ x.size ≤ 17 from ⟨h0, h1⟩)]
    rcases h with h | ⟨rfl, h⟩
    · simp [h]
    · simp [h]
  exact ⟨e, by unfold numV; rw [e]; rfl⟩
theorem dig_step {x : Str} {k : Nat} (hk : k < x.size) : digVal (x.data.toList.take (k + 1)) = digVal (x.data.toList.take k) * 10 + ((x[k].toNat : Int) - 48) := by
  have hk' : k < x.data.toList.length := by rw [size_data]; exact hk
  rw [List.take_add_one, List.getElem?_eq_getElem hk']
  exact digVal_snoc _ _
theorem dig_bd {x : Str} (hd : allDig x = true) {k : Nat} (hk : k ≤ 17) : 0 ≤ digVal (x.data.toList.take k) ∧ digVal (x.data.toList.take k) < 100000000000000000 := by
  have hall : ∀ d ∈ x.data.toList.take k, isDig d = true := fun d hm => List.all_eq_true.1 hd d (List.mem_of_mem_take hm)
  obtain ⟨h1, h2⟩ := digVal_bd _ _ rfl hall
  refine ⟨h1, Int.lt_of_lt_of_le h2 ?_⟩
  have hl : (x.data.toList.take k).length ≤ 17 := by rw [List.length_take]; omega
  have : (10 : Int) ^ (x.data.toList.take k).length ≤ 10 ^ 17 := by
    have := Nat.pow_le_pow_right (n := 10) (by decide) hl
    exact_mod_cast this
  exact this

set_option maxHeartbeats 1000000 in
set_option maxRecDepth 100000 in
theorem implDigits (x : Str) (h17 : x.size ≤ 17) (hd : allDig x = true) (w : World) :
    Calls Tryd.prog 70 #[.string x] w fun e w' => e = .returned (.int .i64 (digVal x.data.toList)) ∧ w = w' := by
  have Hd := Lib.hid hd
  clear hd
  go_enter Tryd.func70, Tryd.ntmps70
  go_wp2
  go_loop [3, 4] (fun n i => ∃ (k : Nat) (v : Int), k ≤ x.size ∧ i = .int .i64 k ∧ n = .int .i64 v ∧ Hid (v = digVal (x.data.toList.take k))) (fun _ i => x.size - (intOf i).toNat)
  case atStart => exact ⟨0, 0, Nat.zero_le _, rfl, rfl, rfl⟩
  case round =>
    obtain ⟨k, v, hk, rfl, rfl, HV⟩ := hrel
    by_cases hlt : k < x.size
    · have hx := dig_iff.1 ((allDig_iff x).1 Hd.out k hlt)
      have HN : Hid (v * 10 + ((x[k].toNat : Int) - 48) = digVal (x.data.toList.take (k + 1))) := by show _ = _; rw [HV.out, dig_step hlt]
      have hb := dig_bd Hd.out (k := k) (by omega)
      rw [← HV.out] at hb
      have b1 : 48 ≤ (x[k].toNat : Int) := by omega
      have b2 : (x[k].toNat : Int) ≤ 57 := by omega
      have b3 := hb.1
      have b4 := hb.2
      clear hb hx
      go_wp2
      go_round
      case rel => exact ⟨k + 1, _, by omega, by go_num, rfl, by show _ = _; rw [← HN.out]; omega⟩
      case measure => simp [intOf]; omega
    · obtain rfl : k = x.size := by omega
      have e : v = digVal x.data.toList := by rw [HV.out, List.take_of_length_le (by rw [size_data]; exact Nat.le_refl _)]
      have He := Lib.hid e
      clear e
      go_wp2
      go_ret
      exact ⟨by rw [← He.out]; rfl, rfl⟩
end Go.Proofs.YtjibjoapbjojlaaDoor
