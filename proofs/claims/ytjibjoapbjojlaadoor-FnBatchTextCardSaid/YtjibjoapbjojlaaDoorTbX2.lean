/-
  The law on the text of letters.
-/
import Derived.Test.YtjibjoapbjojlaaDoorTbP
import Derived.Test.YtjibjoapbjojlaaDoorDs2
namespace Go.Proofs.YtjibjoapbjojlaaDoor
open Go.RowKit

set_option maxHeartbeats 1000000 in
set_option maxRecDepth 100000 in
theorem soBatchEq (A B : Option Addr) (l : List Lt) (n c d : Nat) (hl : n = l.length) (w : World) (hn : n ≤ 16777216) (h : Rd w 2 ltEnc A l) (h2 : Rd w 2 ltEnc B l) :
    Calls Tryd.prog 16 #[.slice A n c, .slice B n d] w fun e w' => e = .returned (.bool true) ∧ Below w.heap.size w w' := by
  have Hl := Lib.hid hl
  have Hr := Lib.hid h
  have Hs := Lib.hid h2
  clear h h2 hl
  go_enter Tryd.func16, Tryd.ntmps16
  go_wp2
  go_loopw [5] (fun i wr => ∃ j : Nat, j ≤ n ∧ i = .int .i64 j ∧ Below w.heap.size w wr) (fun i _ => n - (intOf i).toNat)
  case atStart => exact ⟨0, Nat.zero_le _, rfl, Below.refl _ _⟩
  case round =>
    obtain ⟨j, hj, rfl, hb⟩ := hrel
    by_cases hlt : j < n
    · obtain ⟨x, hx⟩ : ∃ x, l[j]? = some x := ⟨_, List.getElem?_eq_getElem (by have := Hl.out; omega)⟩
      obtain ⟨ad, rfl, hab, c0, c1⟩ := (Hr.out.below hb).two hx rfl
      obtain ⟨bd, rfl, hbb, d0, d1⟩ := (Hs.out.below hb).two hx rfl
      clear hx
      go_wp2
      go_quiet (fail)
      go_wp2
      go_roundw
      case rel => exact ⟨j + 1, by omega, by go_num, below_drewN hb _⟩
      case measure => simp [intOf]; omega
    · obtain rfl : j = n := by omega
      go_wp2
      go_ret
      exact ⟨rfl, hb⟩
theorem parseLt_small {s : Str} (hs : s.size ≤ 1048576) : ∀ x ∈ (parseLt s).1, x.2.size ≤ 1048576 := by
  unfold parseLt
  split
  · intro x hx; simp at hx
  · split
    · intro x hx
      obtain ⟨p, hp, rfl⟩ := List.mem_map.1 hx
      exact ltOfS_size (by have := parts_size hp; omega)
    · intro x hx; simp at hx

set_option maxHeartbeats 8000000 in
set_option maxRecDepth 100000 in
theorem walkFnBatchText (A : Option Addr) (bs : List UInt8) (c : Nat) (A' : Option Addr) (bs' : List UInt8) (c' : Nat) (w : World) (h : ByIn w A bs c) (h' : ByIn w A' bs' c') (htb : Lib.TabIs Tryd.prog w "internal/strconv.uint64pow10" .u64 Lib.pow10Tab) :
    Calls Tryd.prog 4 #[.slice A bs.length c, .slice A' bs'.length c'] w fun e w' => e = .returned (.bool true) ∧ Below w.heap.size w w' := by
  obtain ⟨hlc, hcm, hr⟩ := h
  obtain ⟨hlc', hcm', hr'⟩ := h'
  have Hr := Lib.hid hr
  have Hr' := Lib.hid hr'
  have HT := Lib.hid (tab_up htb)
  unfold maxLen at hcm hcm'
  clear hr hr' htb
  by_cases hlen : ¬ (bs.length : Int) ≤ 1048576
  · go_enter Tryd.func4, Tryd.ntmps4
    go_wp2
    go_ret
    exact ⟨rfl, Below.refl _ _⟩
  have hlen := Decidable.not_not.1 hlen
  by_cases hlen' : ¬ (bs'.length : Int) ≤ 1048576
  · go_enter Tryd.func4, Tryd.ntmps4
    go_wp2
    go_ret
    exact ⟨rfl, Below.refl _ _⟩
  have hlen' := Decidable.not_not.1 hlen'
  go_enter Tryd.func4, Tryd.ntmps4
  go_wp2_with fail
  refine (drawFormatBatchC A bs _ _ rfl hlc _ (by omega) Hr.out).mono ?_
  rintro e w1 ⟨A1, n1, c1, l, rfl, hn1, hs1, HP⟩
  have H := Lib.hid HP
  have Hs : Hid (∀ x ∈ l, x.2.size ≤ 1048576) := fun x hx => by have := hs1 x hx; omega
  have hln := (H.out.own 0 rfl).len
  subst hln
  have Hc := Lib.hid (H.out.own 0 rfl).cap_le
  clear HP hs1
  -- the second half: a text is parsed
  have K2 : ∀ (s : Str), s.size ≤ 1000 → ∃ m ok, Hid (parseLt s = (m, ok)) ∧ m.length ≤ 1048576 ∧ Hid (∀ x ∈ m, x.2.size ≤ 1048576) := fun s hs => by
    refine ⟨(parseLt s).1, (parseLt s).2, rfl, parseLt_len s, parseLt_small (by omega)⟩
  obtain ⟨T, hT⟩ : ∃ T, fmtB l = T := ⟨_, rfl⟩
  have HTT := Lib.hid hT
  have hTT : (ByteArray.toList T == ByteArray.toList T) = true := by simp
  cases hok : batchOk l
  · have hTe : T = ByteArray.empty := by rw [← hT]; unfold fmtB; rw [hok]; rfl
    subst hTe
    have Hok := Lib.hid hok
    have hq := str_t (a := ByteArray.empty) (b := (⟨#[]⟩ : Str)) rfl
    clear hT hok
    go_wp2_with fail
    refine (implFormatBatch A1 l _ c1 rfl Hc.out _ (by omega) Hs.out ((H.out.own 0 rfl).rd ltEnc_len) (HT.out.below H.out.below)).mono ?_
    rw [HTT.out]
    rintro e w2 ⟨rfl, hb⟩
    have H := Lib.hid (H.out.step hb)
    clear hb
    go_wp2_with fail
    refine (specFormatBatch A1 l _ c1 rfl _ (by omega) Hs.out ((H.out.own 0 rfl).rd ltEnc_len)).mono ?_
    rw [HTT.out]
    rintro e w3 ⟨rfl, hb⟩
    have H := Lib.hid (H.out.step hb)
    clear hb
    go_wp2_with fail
    refine (implBatchValid A1 l _ c1 rfl Hc.out _ (by omega) Hs.out ((H.out.own 0 rfl).rd ltEnc_len)).mono ?_
    rw [Hok.out]
    rintro e w4 ⟨rfl, hb⟩
    have H := Lib.hid (H.out.step hb)
    clear hb
    go_wp2_with fail
    refine (drawParseBatchC A' bs' _ _ rfl hlc' _ (by omega) (Hr'.out.below H.out.below)).mono ?_
    rintro e w5 ⟨s, rfl, hs, hb⟩
    have H := Lib.hid ((H.out.step hb).drop 0)
    clear hb
    obtain ⟨m, ok, Hm, hm, Hy⟩ := K2 s hs
    go_wp2_with fail
    refine (implParseBatch s (by omega) _ (HT.out.below H.out.below)).mono ?_
    rw [Hm.out]
    rintro e w6 ⟨A6, n6, c6, rfl, ho, hb⟩
    have H := Lib.hid (H.out.addOwn hb ho)
    have hl6 := ho.len
    subst hl6
    clear ho hb
    go_wp2_with fail
    refine (specParseBatch s (by omega) _).mono ?_
    rw [Hm.out]
    rintro e w7 ⟨A7, n7, c7, rfl, ho, hb⟩
    have H := Lib.hid (H.out.addOwn hb ho)
    have hl7 := ho.len
    subst hl7
    clear ho hb
    go_wp2_with fail
    refine (soBatchEq A6 A7 m _ c6 c7 rfl _ (by omega) ((H.out.own 1 rfl).rd ltEnc_len) ((H.out.own 0 rfl).rd ltEnc_len)).mono ?_
    rintro e w8 ⟨rfl, hb⟩
    have H := Lib.hid (H.out.step hb)
    clear hb
    cases ok
    · go_wp2
      go_ret
      exact ⟨rfl, H.out.below⟩
    · have Hc6 := Lib.hid (H.out.own 1 rfl).cap_le
      have Hf : Hid (fmtB m = s) := fmt_parseLt Hm.out
      have hss : (ByteArray.toList s == ByteArray.toList s) = true := by simp
      go_wp2_with fail
      refine (implFormatBatch A6 m _ c6 rfl Hc6.out _ (by omega) Hy.out ((H.out.own 1 rfl).rd ltEnc_len) (HT.out.below H.out.below)).mono ?_
      rw [Hf.out]
      rintro e w9 ⟨rfl, hb⟩
      have H := Lib.hid (H.out.step hb)
      clear hb
      go_wp2
      go_ret
      exact ⟨rfl, H.out.below⟩
  · have hne : ¬ T = (⟨#[]⟩ : Str) := by
      rintro rfl
      have h1 := fmtB_join hok
      rw [hT] at h1
      have h2 := congrArg ByteArray.size h1
      split at h2
      · cases h2
      · rename_i h0; exact h0 h2.symm
    have hq2 := str_f hne
    have hq : (ByteArray.toList T).isEmpty = false := by simpa using hq2
    have hTz : T.size ≤ 1048576 := by
      rw [← hT, fmtB_join hok]
      split
      · decide
      · have h1 := joinL_size_le (l.map ltPiece) 12 (fun y hy => by
          obtain ⟨x, hx, rfl⟩ := List.mem_map.1 hy
          exact (ltPiece_size hok hx).2)
        rw [List.length_map] at h1
        omega
    have Hok := Lib.hid hok
    have KP : Hid (∀ W, Below w.heap.size w W → Calls Tryd.prog 8 #[.string T] W fun e w' => ∃ A n c, e = .returned (.tuple #[.slice A n c, .bool true]) ∧ Own w' W.heap.size 55 2 ltEnc (.slice A n c) l ∧ Below W.heap.size W w') := fun W hb => by
      have h1 := parse_fmtB hok
      rw [hT] at h1
      have := implParseBatch T hTz W (HT.out.below hb)
      rw [h1] at this
      exact this
    clear hT hok hne
    go_wp2_with fail
    refine (implFormatBatch A1 l _ c1 rfl Hc.out _ (by omega) Hs.out ((H.out.own 0 rfl).rd ltEnc_len) (HT.out.below H.out.below)).mono ?_
    rw [HTT.out]
    rintro e w2 ⟨rfl, hb⟩
    have H := Lib.hid (H.out.step hb)
    clear hb
    go_wp2_with fail
    refine (specFormatBatch A1 l _ c1 rfl _ (by omega) Hs.out ((H.out.own 0 rfl).rd ltEnc_len)).mono ?_
    rw [HTT.out]
    rintro e w3 ⟨rfl, hb⟩
    have H := Lib.hid (H.out.step hb)
    clear hb
    go_wp2_with fail
    refine (implBatchValid A1 l _ c1 rfl Hc.out _ (by omega) Hs.out ((H.out.own 0 rfl).rd ltEnc_len)).mono ?_
    rw [Hok.out]
    rintro e w4 ⟨rfl, hb⟩
    have H := Lib.hid (H.out.step hb)
    clear hb
    go_wp2_with fail
    refine (KP.out _ H.out.below).mono ?_
    rintro e w4 ⟨A4, n4, c4, rfl, ho, hb⟩
    have H := Lib.hid (H.out.addOwn hb ho)
    have hl4 := ho.len
    subst hl4
    clear ho hb
    go_wp2_with fail
    refine (soBatchEq A4 A1 l _ c4 c1 rfl _ (by omega) ((H.out.own 0 rfl).rd ltEnc_len) ((H.out.own 1 rfl).rd ltEnc_len)).mono ?_
    rintro e w5 ⟨rfl, hb⟩
    have H := Lib.hid ((H.out.step hb).drop 0)
    clear hb
    go_wp2_with fail
    refine (drawParseBatchC A' bs' _ _ rfl hlc' _ (by omega) (Hr'.out.below H.out.below)).mono ?_
    rintro e w5 ⟨s, rfl, hs, hb⟩
    have H := Lib.hid ((H.out.step hb).drop 0)
    clear hb
    obtain ⟨m, ok, Hm, hm, Hy⟩ := K2 s hs
    go_wp2_with fail
    refine (implParseBatch s (by omega) _ (HT.out.below H.out.below)).mono ?_
    rw [Hm.out]
    rintro e w6 ⟨A6, n6, c6, rfl, ho, hb⟩
    have H := Lib.hid (H.out.addOwn hb ho)
    have hl6 := ho.len
    subst hl6
    clear ho hb
    go_wp2_with fail
    refine (specParseBatch s (by omega) _).mono ?_
    rw [Hm.out]
    rintro e w7 ⟨A7, n7, c7, rfl, ho, hb⟩
    have H := Lib.hid (H.out.addOwn hb ho)
    have hl7 := ho.len
    subst hl7
    clear ho hb
    go_wp2_with fail
    refine (soBatchEq A6 A7 m _ c6 c7 rfl _ (by omega) ((H.out.own 1 rfl).rd ltEnc_len) ((H.out.own 0 rfl).rd ltEnc_len)).mono ?_
    rintro e w8 ⟨rfl, hb⟩
    have H := Lib.hid (H.out.step hb)
    clear hb
    cases ok
    · go_wp2
      go_ret
      exact ⟨rfl, H.out.below⟩
    · have Hc6 := Lib.hid (H.out.own 1 rfl).cap_le
      have Hf : Hid (fmtB m = s) := fmt_parseLt Hm.out
      have hss : (ByteArray.toList s == ByteArray.toList s) = true := by simp
      go_wp2_with fail
      refine (implFormatBatch A6 m _ c6 rfl Hc6.out _ (by omega) Hy.out ((H.out.own 1 rfl).rd ltEnc_len) (HT.out.below H.out.below)).mono ?_
      rw [Hf.out]
      rintro e w9 ⟨rfl, hb⟩
      have H := Lib.hid (H.out.step hb)
      clear hb
      go_wp2
      go_ret
      exact ⟨rfl, H.out.below⟩
end Go.Proofs.YtjibjoapbjojlaaDoor
