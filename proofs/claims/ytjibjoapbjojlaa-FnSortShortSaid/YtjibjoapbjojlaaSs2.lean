/-
  Letters put into bins by a digit, and collected: the program's and the reference's.
-/
import Derived.Test.YtjibjoapbjojlaaSs1
import Derived.Test.YtjibjoapbjojlaaPsB
namespace Go.Proofs.Ytjibjoapbjojlaa
open Go.RowKit

/-- Bins as a result. -/
def BinRes (d : Nat) (m : List Lt) (v : Value) (w w' : World) : Prop :=
  ∃ g hs, v = .slice (some ⟨g, 0, none⟩) 10 10 ∧ hs.length = 10 ∧ Pool w w' (ownP 23 1 rawEnc (.slice (some ⟨g, 0, none⟩) 10 10) hs :: ownP 39 2 ltEnc (.slice none 0 0) [] :: (innerP 39 hs (plBins 10 (digAt d) m) ++ []))
theorem BinRes.rd {d : Nat} {m : List Lt} {v : Value} {w w' : World} (h : BinRes d m v w w') : ∃ A hs, v = .slice A 10 10 ∧ hs.length = 10 ∧ BinsRd w' A hs (plBins 10 (digAt d) m) ∧ Below w.heap.size w w' := by
  obtain ⟨g, hs, rfl, hl, hp⟩ := h
  exact ⟨_, hs, rfl, hl, hp.binsRd (T := 39) (fun p hp => by simp [hp]) (by rw [hl, plBins_len]), hp.below⟩
theorem digit_q {m : List Lt} {d : Nat} (hv : batchOk m = true) (hd : d < 7) {x : Lt} (hx : x ∈ m) (hxd : d < x.2.size) : ∃ q : Nat, q < 10 ∧ digAt d x.2 = (q : Int) ∧ (x.2[d].toNat : Int) = 48 + (q : Int) := by
  have hb := digAt_bd (batch_codes hv hx) hd
  obtain ⟨q, hq⟩ := Int.eq_ofNat_of_zero_le hb.1
  have he := digAt_eq hxd
  exact ⟨q, by omega, hq, by omega⟩

set_option maxHeartbeats 4000000 in
set_option maxRecDepth 100000 in
theorem implBins (d : Nat) (hd : d < 7) (D : Option Addr) (m : List Lt) (k cap : Nat) (hk : k = m.length) (hcap : k ≤ cap) (w : World) (hkn : k ≤ 1048576) (hv : batchOk m = true) (hm : Rd w 2 ltEnc D m) :
    Calls Try.prog 18 #[.slice D k cap, .int .i64 d] w fun e w' => ∃ v, e = .returned (.tuple #[v, .bool true]) ∧ BinRes d m v w w' := by
  have Hk := Lib.hid hk
  have Hm := Lib.hid hm
  have Hv := Lib.hid hv
  have Hs : Hid (∀ x ∈ m, x.2.size ≤ 1048576) := fun x hx => by have := batch_size hv hx; omega
  clear hm hk hv
  obtain ⟨i0, hi, hz0, hz1, hz2⟩ := info_parts lts_info
  obtain ⟨j0, ji, jz0, jz1, jz2⟩ := info_parts lt_info
  have hd0 : ¬ (d : Int) < 0 := by omega
  have hd7 : ¬ (7 : Int) ≤ (d : Int) := by omega
  go_enter Try.func18, Try.ntmps18
  go_wp2_with fail
  refine (implBatchValid _ m _ _ Hk.out hcap _ (by omega) Hs.out Hm.out).mono ?_
  rw [Hv.out]
  rintro e w0 ⟨rfl, hb⟩
  have HB : Hid (Pool w w0 (ownP 39 2 ltEnc (.slice none 0 0) [] :: (innerP 39 (List.replicate 10 (.slice none 0 0)) (List.replicate 10 []) ++ []))) :=
    ((Pool.of_below hb).nils (T := 39) 10).add (Below.refl _ _) (ownP _ 2 ltEnc (.slice none 0 0) []) (Own.nil_ _ _ _ _ _) (fun k hk => by simp [ownP, Value.ownBlock] at hk)
  clear hb
  go_wp2_with (at_make; refine wpList_make_full _ rfl _ _ 40 rfl w0.heap.size 23 i0 _ 1 Try.underlying40 hi hz0 hz1 .i64 .i64 _ _ 10 rfl rfl rfl rfl (by rw [hz2]; omega) (by unfold maxLen; omega) (Nat.le_refl _) ?_; intro w1 hown1 hg1)
  have hP : Hid (Pool w w1 (ownP 23 1 rawEnc (.slice (some ⟨w0.heap.size, 0, none⟩) 10 10) (List.replicate 10 (.slice none 0 0)) :: ownP 39 2 ltEnc (.slice none 0 0) [] :: (innerP 39 (List.replicate 10 (.slice none 0 0)) (plBins 10 (digAt d) []) ++ []))) := by
    rw [plBins_nil]
    refine HB.out.addOwn (grown_below hg1 (fun _ e => by cases e)) ?_
    unfold Own
    rw [List.length_replicate, ← made_raw]
    rw [show (Value.slice none 0 0).cells = #[Value.slice none 0 0] from rfl] at hown1
    simpa using hown1
  clear HB hown1 hg1
  go_wp2_with fail
  go_loopw [24] (fun i wr => ∃ j : Nat, j ≤ k ∧ i = .int .i64 j ∧ ∃ hs, Hid (hs.length = 10) ∧ Hid (Pool w wr (ownP 23 1 rawEnc (.slice (some ⟨w0.heap.size, 0, none⟩) 10 10) hs :: ownP 39 2 ltEnc (.slice none 0 0) [] :: (innerP 39 hs (plBins 10 (digAt d) (m.take j)) ++ [])))) (fun i _ => k - (intOf i).toNat)
  case atStart => exact ⟨0, Nat.zero_le _, rfl, _, by show _ = _; simp, hP.out⟩
  case round =>
    clear hP
    obtain ⟨j, hj, rfl, hs, Hlen, HP⟩ := hrel
    by_cases hlt : j < k
    · obtain ⟨x, hx⟩ : ∃ x, m[j]? = some x := ⟨_, List.getElem?_eq_getElem (by have := Hk.out; omega)⟩
      have hx7 := batch_size Hv.out (List.mem_of_getElem? hx)
      have hxd : d < x.2.size := by omega
      obtain ⟨q, hq, hqd, hqb⟩ := digit_q Hv.out hd (List.mem_of_getElem? hx) hxd
      obtain ⟨ad, rfl, hab, d0, d1⟩ := (Hm.out.below HP.out.below).two hx rfl
      have F1 : Hid (plBins 10 (digAt d) (m.take (j + 1)) = (plBins 10 (digAt d) (m.take j)).set q (plBin (digAt d) (m.take j) q ++ [x])) := plBins_step hx hqd
      obtain ⟨u, hu⟩ : ∃ u, hs[q]? = some u := ⟨_, List.getElem?_eq_getElem (by have := Hlen.out; omega)⟩
      have hlq : (plBins 10 (digAt d) (m.take j))[q]? = some (plBin (digAt d) (m.take j) q) := plBins_at hq
      have hlen : (plBin (digAt d) (m.take j) q).length ≤ j := Nat.le_trans (plBin_len _ _ _) (by rw [List.length_take]; omega)
      obtain ⟨y, hy⟩ : ∃ y, plBin (digAt d) (m.take j) q = y := ⟨_, rfl⟩
      rw [hy] at hlq F1 hlen
      have Hu := Lib.hid hu
      have Hlq := Lib.hid hlq
      have l0 : (wr.alloc (Obj.cells #[.int .i64 x.1, .string x.2] 39)).cell? ⟨wr.heap.size, 0, none⟩ = some (.int .i64 x.1) := World.cell?_alloc_at _ _ _ 0 rfl
      have l1 : (wr.alloc (Obj.cells #[.int .i64 x.1, .string x.2] 39)).cell? ⟨wr.heap.size, 1, none⟩ = some (.string x.2) := World.cell?_alloc_at _ _ _ 1 rfl
      have H3 := Lib.hid (HP.out.alloc (Obj.cells #[.int .i64 x.1, .string x.2] 39))
      have b1 : (q : Int) < 10 := by omega
      have hdI : (d : Int) < (x.2.size : Int) := by omega
      have hdN : (0 : Int) ≤ (d : Int) := by omega
      have hbw : IntKind.u8.wrap (48 + (q : Int) - 48) = (q : Int) := by rw [IntKind.wrap_u8]; omega
      have hbw2 : IntKind.i64.wrap (q : Int) = (q : Int) := by rw [IntKind.wrap_i64]; omega
      clear hx hqd hu hlq hy
      go_upto_region 8 with fail
      generalize wr.alloc (Obj.cells #[.int .i64 x.1, .string x.2] 39) = w2 at *
      obtain ⟨⟨q0, q1⟩, ho⟩ := H3.out.binHead Hu.out Hlq.out
      have HD := Lib.hid (H3.out.alloc (Obj.cells #[.int .i64 x.1, .string x.2] 39)).drew1
      have Hraw : Hid ((w2.alloc (Obj.cells #[.int .i64 x.1, .string x.2] 39)).drew.ownsRow 0 39 2 u y.length (y.flatMap ltEnc)) := (HD.out.binHead Hu.out Hlq.out).2
      have Hnews : Hid (∀ (i : Nat) (z : Value), (ltEnc x)[i]? = some z → (w2.alloc (Obj.cells #[.int .i64 x.1, .string x.2] 39)).drew.cell? (Addr.add ⟨w2.heap.size, 0, none⟩ i) = some z) := ltEnc_cells x rfl
      have q0' := fun o => cell_alloc q0 o
      have l0' := fun o => cell_alloc l0 o
      have l1' := fun o => cell_alloc l1 o
      clear ho d0 d1 hbw hbw2
      go_region_law (refine step_append_lies _ (by rfl) (.tmp 39) (.tmp 41) 23 (by rfl) 0 39 j0 _ 2 24 Try.underlying23 ji jz0 jz1 jz2 rfl (by decide) u y.length (y.flatMap ltEnc) (by rfl) Hraw.out _ 1 1 (ltEnc x) (by rfl) (by rfl) Hnews.out (ltEnc_one x) (by decide) (by unfold maxLen; omega) (by omega) (Nat.zero_le _) _ rfl ?_; intro g3 c3 w5 hown5 hg5 hat5 hlt5; obtain ⟨q2, q3⟩ := HD.out.binCell Hu.out Hlq.out hg5 (by rcases hat5 with h' | h'; exact .inl h'; exact .inr (by omega)) (own_push hown5 rfl))
      all_goals
        have HE := HD.out.bin Hu.out Hlq.out hg5 (by rcases hat5 with h' | h'; exact .inl h'; exact .inr (by omega)) (own_push hown5 rfl)
        rw [← F1.out] at HE
        go_wp2
        go_roundw
        case rel => exact ⟨j + 1, by omega, by go_num, hs.set q (.slice (some ⟨g3, 0, none⟩) (y.length + 1) c3), (List.length_set).trans Hlen.out, HE⟩
        case measure => simp [intOf]; omega
    · obtain rfl : j = k := by omega
      have t := List.take_of_length_le (l := m) (i := j) (by rw [Hk.out]; exact Nat.le_refl _)
      have HF := HP.out
      rw [t] at HF
      have HF := Lib.hid HF
      clear t
      go_wp2
      go_ret2
      exact ⟨_, rfl, w0.heap.size, hs, rfl, Hlen.out, HF.out⟩

set_option maxHeartbeats 4000000 in
set_option maxRecDepth 100000 in
theorem specBins (d : Nat) (hd : d < 7) (D : Option Addr) (m : List Lt) (k cap : Nat) (hk : k = m.length) (w : World) (hkn : k ≤ 1048576) (hv : batchOk m = true) (hm : Rd w 2 ltEnc D m) :
    Calls Try.prog 28 #[.slice D k cap, .int .i64 d] w fun e w' => ∃ v, e = .returned v ∧ BinRes d m v w w' := by
  have Hk := Lib.hid hk
  have Hm := Lib.hid hm
  have Hv := Lib.hid hv
  have Hs : Hid (∀ x ∈ m, x.2.size ≤ 1048576) := fun x hx => by have := batch_size hv hx; omega
  clear hm hk hv
  obtain ⟨i0, hi, hz0, hz1, hz2⟩ := info_parts lts_info
  obtain ⟨j0, ji, jz0, jz1, jz2⟩ := info_parts lt_info
  go_enter Try.func28, Try.ntmps28
  have HB : Hid (Pool w w (ownP 39 2 ltEnc (.slice none 0 0) [] :: (innerP 39 (List.replicate 10 (.slice none 0 0)) (List.replicate 10 []) ++ []))) :=
    ((Pool.nil_ w).nils (T := 39) 10).add (Below.refl _ _) (ownP _ 2 ltEnc (.slice none 0 0) []) (Own.nil_ _ _ _ _ _) (fun k hk => by simp [ownP, Value.ownBlock] at hk)
  go_wp2_with (at_make; refine wpList_make_full _ rfl _ _ 40 rfl w.heap.size 23 i0 _ 1 Try.underlying40 hi hz0 hz1 .i64 .i64 _ _ 10 rfl rfl rfl rfl (by rw [hz2]; omega) (by unfold maxLen; omega) (Nat.le_refl _) ?_; intro w1 hown1 hg1)
  have hP : Hid (Pool w w1 (ownP 23 1 rawEnc (.slice (some ⟨w.heap.size, 0, none⟩) 10 10) (List.replicate 10 (.slice none 0 0)) :: ownP 39 2 ltEnc (.slice none 0 0) [] :: (innerP 39 (List.replicate 10 (.slice none 0 0)) (plBins 10 (digAt d) []) ++ []))) := by
    rw [plBins_nil]
    refine HB.out.addOwn (grown_below hg1 (fun _ e => by cases e)) ?_
    unfold Own
    rw [List.length_replicate, ← made_raw]
    rw [show (Value.slice none 0 0).cells = #[Value.slice none 0 0] from rfl] at hown1
    simpa using hown1
  clear HB hown1 hg1
  go_wp2_with fail
  go_loopw [6] (fun i wr => ∃ j : Nat, j ≤ k ∧ i = .int .i64 j ∧ ∃ hs, Hid (hs.length = 10) ∧ Hid (Pool w wr (ownP 23 1 rawEnc (.slice (some ⟨w.heap.size, 0, none⟩) 10 10) hs :: ownP 39 2 ltEnc (.slice none 0 0) [] :: (innerP 39 hs (plBins 10 (digAt d) (m.take j)) ++ [])))) (fun i _ => k - (intOf i).toNat)
  case atStart => exact ⟨0, Nat.zero_le _, rfl, _, by show _ = _; simp, hP.out⟩
  case round =>
    clear hP
    obtain ⟨j, hj, rfl, hs, Hlen, HP⟩ := hrel
    by_cases hlt : j < k
    · obtain ⟨x, hx⟩ : ∃ x, m[j]? = some x := ⟨_, List.getElem?_eq_getElem (by have := Hk.out; omega)⟩
      have hx7 := batch_size Hv.out (List.mem_of_getElem? hx)
      have hxd : d < x.2.size := by omega
      obtain ⟨q, hq, hqd, hqb⟩ := digit_q Hv.out hd (List.mem_of_getElem? hx) hxd
      obtain ⟨ad, rfl, hab, d0, d1⟩ := (Hm.out.below HP.out.below).two hx rfl
      have F1 : Hid (plBins 10 (digAt d) (m.take (j + 1)) = (plBins 10 (digAt d) (m.take j)).set q (plBin (digAt d) (m.take j) q ++ [x])) := plBins_step hx hqd
      obtain ⟨u, hu⟩ : ∃ u, hs[q]? = some u := ⟨_, List.getElem?_eq_getElem (by have := Hlen.out; omega)⟩
      have hlq : (plBins 10 (digAt d) (m.take j))[q]? = some (plBin (digAt d) (m.take j) q) := plBins_at hq
      have hlen : (plBin (digAt d) (m.take j) q).length ≤ j := Nat.le_trans (plBin_len _ _ _) (by rw [List.length_take]; omega)
      obtain ⟨y, hy⟩ : ∃ y, plBin (digAt d) (m.take j) q = y := ⟨_, rfl⟩
      rw [hy] at hlq F1 hlen
      have Hu := Lib.hid hu
      have Hlq := Lib.hid hlq
      have H3 := HP
      have b1 : (q : Int) < 10 := by omega
      have hdI : (d : Int) < (x.2.size : Int) := by omega
      have hdN : (0 : Int) ≤ (d : Int) := by omega
      have hbw : IntKind.i64.wrap (48 + (q : Int) - 48) = (q : Int) := by rw [IntKind.wrap_i64]; omega
      have hjI : (j : Int) < (k : Int) := by omega
      have hbw2 : IntKind.i64.wrap (q : Int) = (q : Int) := by rw [IntKind.wrap_i64]; omega
      clear hx hqd hu hlq hy
      go_wp2_with fail
      obtain ⟨⟨q0, q1⟩, ho⟩ := H3.out.binHead Hu.out Hlq.out
      have HD := Lib.hid (H3.out.alloc (Obj.cells #[.int .i64 x.1, .string x.2] 39)).drew1
      have Hraw : Hid ((wr.alloc (Obj.cells #[.int .i64 x.1, .string x.2] 39)).drew.ownsRow 0 39 2 u y.length (y.flatMap ltEnc)) := (HD.out.binHead Hu.out Hlq.out).2
      have Hnews : Hid (∀ (i : Nat) (z : Value), (ltEnc x)[i]? = some z → (wr.alloc (Obj.cells #[.int .i64 x.1, .string x.2] 39)).drew.cell? (Addr.add ⟨wr.heap.size, 0, none⟩ i) = some z) := ltEnc_cells x rfl
      have q0' := fun o => cell_alloc q0 o
      have l0' := fun o => cell_alloc d0 o
      have l1' := fun o => cell_alloc d1 o
      clear ho hbw hbw2
      go_region_law (refine step_append_lies _ (by rfl) (.tmp 29) (.tmp 34) 23 (by rfl) 0 39 j0 _ 2 24 Try.underlying23 ji jz0 jz1 jz2 rfl (by decide) u y.length (y.flatMap ltEnc) (by rfl) Hraw.out _ 1 1 (ltEnc x) (by rfl) (by rfl) Hnews.out (ltEnc_one x) (by decide) (by unfold maxLen; omega) (by omega) (Nat.zero_le _) _ rfl ?_; intro g3 c3 w5 hown5 hg5 hat5 hlt5; obtain ⟨q2, q3⟩ := HD.out.binCell Hu.out Hlq.out hg5 (by rcases hat5 with h' | h'; exact .inl h'; exact .inr (by omega)) (own_push hown5 rfl))
      all_goals
        have HE := HD.out.bin Hu.out Hlq.out hg5 (by rcases hat5 with h' | h'; exact .inl h'; exact .inr (by omega)) (own_push hown5 rfl)
        rw [← F1.out] at HE
        go_wp2
        go_roundw
        case rel => exact ⟨j + 1, by omega, by go_num, hs.set q (.slice (some ⟨g3, 0, none⟩) (y.length + 1) c3), (List.length_set).trans Hlen.out, HE⟩
        case measure => simp [intOf]; omega
    · obtain rfl : j = k := by omega
      have t := List.take_of_length_le (l := m) (i := j) (by rw [Hk.out]; exact Nat.le_refl _)
      have HF := HP.out
      rw [t] at HF
      have HF := Lib.hid HF
      clear t
      go_wp2
      go_ret
      exact ⟨_, rfl, w.heap.size, hs, rfl, Hlen.out, HF.out⟩
end Go.Proofs.Ytjibjoapbjojlaa
