/-
  The library's slices.Concat of two slices ([]string): a new slice of the first one's elements, then the second one's.
-/
import Derived.Test.YtnfggnpemnebcaaPlHb
namespace Go.Proofs.Ytnfggnpemnebcaa
open Go.RowKit

set_option maxHeartbeats 1000000 in
set_option maxRecDepth 100000 in
theorem growSt (n : Nat) (w : World) (hn : n ≤ 67108864) :
    Calls Try.prog 70 #[.slice none 0 0, .int .i64 n] w fun e w' => ∃ A c, e = .returned (.slice A 0 c) ∧ Own w' w.heap.size 9 1 strEnc (.slice A 0 c) ([] : List Str) ∧ Below w.heap.size w w' := by
  obtain ⟨i0, hi, hz0, hz1, hz2⟩ := info_parts str_info
  by_cases h0 : n = 0
  · subst h0
    go_enter Try.func70, Try.ntmps70
    go_wp2
    go_ret
    exact ⟨none, 0, rfl, Own.nil_ _ _ _ _ _, Below.refl _ _⟩
  · have hgz := fun ty => Lib.run_append_grow_zeros (P := Try.prog) w 22 3 ty 9 i0 _ .i64 .i64 Try.underlying22 Try.underlying3 hi hz0 none 0 0 [] (by simp [Builtin.firstCells]) n (by omega) (by rw [hz1]; decide) (by omega) (by omega) (by rw [hz2]; omega)
      (by rw [hz2]; unfold Builtin.nextslicecap; rw [if_pos (by omega)]; omega)
    simp only [Nat.zero_add] at hgz
    have hG := grownCap_ge w n 0 9
    have hG2 := grownCap_le_maxLen w n 0 9 (by unfold maxLen; omega)
    obtain ⟨G, hGe⟩ : ∃ G, G = grownCap w n 0 9 := ⟨_, rfl⟩
    rw [← hGe] at hgz hG hG2
    obtain ⟨cur, hcur⟩ : ∃ cur, cur = ([] : List Value).toArray ++ Builtin.zeroCells (Value.cells (.string ByteArray.empty)) n ++ Builtin.zeroCells (Value.cells (.string ByteArray.empty)) (G - n) := ⟨_, rfl⟩
    have hcs : cur.size = G * 1 := by
      rw [hcur]
      simp only [Array.size_append, size_zeroCells]
      simp [Value.cells]
      omega
    rw [← hcur] at hgz
    have Hgz := Lib.hid hgz
    have Hmade : Hid (Own (w.drew.alloc (.cells cur 9)) w.heap.size 9 1 strEnc (.slice (some ⟨w.heap.size, 0, none⟩) 0 G) ([] : List Str)) := World.ownsRow_made (base := w.heap.size) w.drew cur G (Nat.le_refl _) hG2 hcs
    clear hGe hcur hcs hgz hi hz0 hz1 hz2 hG2
    go_enter Try.func70, Try.ntmps70
    go_wp2_with (at_builtin; refine Lib.wpList_append_run _ rfl _ _ _ _ rfl _ _ rfl rfl _ _ (Hgz.out _) ?_)
    go_ret
    exact ⟨_, G, rfl, Hmade.out, ((Below.refl _ _).drew).alloc (Nat.le_refl _) _⟩

set_option maxHeartbeats 2000000 in
set_option maxRecDepth 100000 in
theorem concatSt (A B : Option Addr) (l r : List Str) (n m c d g : Nat) (hln : n = l.length) (hrn : m = r.length) (w : World) (hn : n ≤ 16777216) (hm : m ≤ 16777216) (hcn : A = none → c = 0) (hdn : B = none → d = 0)
    (c0 : w.cell? ⟨g, 0, none⟩ = some (.slice A n c)) (c1 : w.cell? ⟨g, 1, none⟩ = some (.slice B m d)) (hl : Rd w 1 strEnc A l) (hr : Rd w 1 strEnc B r) :
    Calls Try.prog 38 #[.slice (some ⟨g, 0, none⟩) 2 2] w fun e w' => ∃ A' c', e = .returned (.slice A' (n + m) c') ∧ Own w' w.heap.size 9 1 strEnc (.slice A' (n + m) c') (l ++ r) ∧ Below w.heap.size w w' := by
  have Hl := Lib.hid hl
  have Hr := Lib.hid hr
  have Hn := Lib.hid hln
  have Hm := Lib.hid hrn
  have Hcn := Lib.hid hcn
  have Hdn := Lib.hid hdn
  have Hc0 := Lib.hid c0
  have Hc1 := Lib.hid c1
  clear hl hr hln hrn hcn hdn
  go_enter Try.func38, Try.ntmps38
  go_wp2
  go_loop [3, 11] (fun t i => ∃ k z : Nat, i = .int .i64 k ∧ t = .int .i64 z ∧ Hid ((k = 0 ∧ z = 0) ∨ (k = 1 ∧ z = n) ∨ (k = 2 ∧ z = n + m))) (fun _ i => 2 - (intOf i).toNat)
  case atStart => exact ⟨0, 0, rfl, rfl, .inl ⟨rfl, rfl⟩⟩
  case round =>
    obtain ⟨k, z, rfl, rfl, H⟩ := hrel
    rcases H.out with ⟨rfl, rfl⟩ | ⟨rfl, rfl⟩ | ⟨rfl, rfl⟩
    · clear H
      go_wp2
      go_round
      case rel => exact ⟨1, n, by go_num, by go_num, .inr (.inl ⟨rfl, rfl⟩)⟩
      case measure => simp [intOf]
    · clear H
      go_wp2
      go_round
      case rel => exact ⟨2, z + m, by go_num, by go_num, .inr (.inr ⟨rfl, rfl⟩)⟩
      case measure => simp [intOf]
    · clear H
      go_wp2_with fail
      refine (growSt (n + m) _ (by omega)).mono ?_
      rintro e w1 ⟨A1, d1, rfl, ho1, hb1⟩
      have Ho1 := Lib.hid ho1
      clear ho1 c0 c1
      go_wp2_with fail
      go_loopw [6, 27] (fun v i wr => ∃ k : Nat, i = .int .i64 k ∧ Below w.heap.size w wr ∧ ∃ (A' : Option Addr) (q c' : Nat) (L : List Str), v = .slice A' q c' ∧ Hid (Own wr w.heap.size 9 1 strEnc (.slice A' q c') L) ∧ Hid ((k = 0 ∧ q = 0 ∧ L = []) ∨ (k = 1 ∧ q = n ∧ L = l) ∨ (k = 2 ∧ q = n + m ∧ L = l ++ r))) (fun _ i _ => 2 - (intOf i).toNat)
      case atStart => exact ⟨0, rfl, hb1, _, _, _, _, rfl, Ho1.out, .inl ⟨rfl, rfl, rfl⟩⟩
      case round =>
        obtain ⟨k, rfl, hb, A', q, c', L, rfl, Ho, H⟩ := hrel
        rcases H.out with ⟨rfl, rfl, rfl⟩ | ⟨rfl, rfl, rfl⟩ | ⟨rfl, rfl, rfl⟩
        · clear H
          have d0 := below_cell hb Hc0.out
          go_wp2_with (at_builtin; refine wpList_appendL (.tmp 31) (.tmp 32) 22 9 str_info Try.underlying22 rfl (by decide) rfl rfl rfl Ho.out rfl Hn.out Hcn.out strEnc_len (Hl.out.below hb) (fun y _ => strEnc_one y) (by have := Ho.out.len; omega) (by have := Ho.out.len; omega) hb.size ?_; intro A2 c2 w2 ho2 hg2)
          have hb2 := hb.grown hg2 hb.size (fun k hk => (Ho.out.lt k hk).1)
          go_roundw
          case rel => exact ⟨1, by go_num, hb2, A2, n, c2, l, rfl, (show Own w2 _ _ _ _ (.slice A2 n c2) l from by simpa using ho2), .inr (.inl ⟨rfl, rfl, rfl⟩)⟩
          case measure => simp [intOf]
        · clear H
          have d1 := below_cell hb Hc1.out
          go_wp2_with (at_builtin; refine wpList_appendL (.tmp 31) (.tmp 32) 22 9 str_info Try.underlying22 rfl (by decide) rfl rfl rfl Ho.out rfl Hm.out Hdn.out strEnc_len (Hr.out.below hb) (fun y _ => strEnc_one y) (by have := Ho.out.len; omega) (by have := Ho.out.len; omega) hb.size ?_; intro A2 c2 w2 ho2 hg2)
          have hb2 := hb.grown hg2 hb.size (fun k hk => (Ho.out.lt k hk).1)
          go_roundw
          case rel => exact ⟨2, by go_num, hb2, A2, _, c2, _, rfl, ho2, .inr (.inr ⟨rfl, by have := Ho.out.len; omega, rfl⟩)⟩
          case measure => simp [intOf]
        · clear H
          go_wp2
          go_ret
          exact ⟨A', c', rfl, Ho.out, hb⟩
end Go.Proofs.Ytnfggnpemnebcaa
