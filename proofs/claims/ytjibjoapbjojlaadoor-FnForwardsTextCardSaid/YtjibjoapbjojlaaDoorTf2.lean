/-
  Orders out of their text: the reference's.
-/
import Derived.Test.YtjibjoapbjojlaaDoorTf1
import Derived.Deep.RegionLaw
namespace Go.Proofs.YtjibjoapbjojlaaDoor
open Go.RowKit

theorem findB_bd {s : Str} {c : UInt8} (h : 0 ≤ findB c s) : ∃ i : Nat, findB c s = (i : Int) ∧ i < s.size ∧ befB c s = s.extract 0 i ∧ aftB c s = s.extract (i + 1) s.size := by
  have hlt := findB_lt h
  obtain ⟨i, hi⟩ := Int.eq_ofNat_of_zero_le h
  have hi2 : (findB c s).toNat = i := by rw [hi]; rfl
  rw [hi2] at hlt
  exact ⟨i, hi, hlt, by unfold befB; rw [hi2], by unfold aftB; rw [hi2]⟩

set_option maxHeartbeats 4000000 in
set_option maxRecDepth 100000 in
theorem specParseForwards (s : Str) (hs : s.size ≤ 1048576) (w : World) :
    Calls Tryd.prog 33 #[.string s] w fun e w' => FwPR (parseFw s) w e w' := by
  have H0 : Hid (Pool w (w.alloc (Obj.cells #[] 79)) [ownP 79 2 fwEnc (.slice (some ⟨w.heap.size, 0, none⟩) 0 0) []]) := (Pool.nil_ w).addOwn ((Below.refl _ _).alloc (Nat.le_refl _) _) (Own.lit0 w 79 2 fwEnc)
  by_cases hd : s = cDash
  · have hq : (ByteArray.toList s == [45]) = true := by
      have := str_t (b := (⟨#[45]⟩ : Str)) hd
      simpa using this
    have Hr : Hid (parseFw s = ([], true)) := by show _ = _; rw [hd]; exact parseFw_dash
    clear hd
    go_enter Tryd.func33, Tryd.ntmps33
    go_wp2
    go_ret2
    show FwPR _ _ _ _
    rw [Hr.out]
    exact ⟨_, 0, 0, rfl, H0.out.res 0 rfl, H0.out.below⟩
  have hq : (ByteArray.toList s == [45]) = false := by
    have := str_f (b := (⟨#[45]⟩ : Str)) hd
    simpa using this
  have Hd := Lib.hid hd
  have Hz : Hid (∀ x ∈ parts s, x.size ≤ 1048576) := fun x hx => by have := parts_size hx; omega
  clear hd
  go_enter Tryd.func33, Tryd.ntmps33
  go_wp2_with fail
  refine (specCut s 32 rfl hs _).mono ?_
  rintro e w1 ⟨A, n, c, rfl, ho, hb⟩
  have H1 := Lib.hid ((H0.out.addOwn hb ho).perm (List.Perm.swap _ _ _))
  have Hln := Lib.hid (H1.out.own 1 rfl).len
  have hnb : n ≤ 1048577 := by have := Hln.out; have := parts_len s; omega
  clear ho hb H0
  go_wp2_with fail
  go_loopw [4, 6] (fun o i wr => ∃ (k : Nat) (A2 : Option Addr) (c2 : Nat), k ≤ n ∧ k ≤ 31 ∧ i = .int .i64 k ∧ o = .slice A2 k c2 ∧ Hid (∀ p ∈ (parts s).take k, 0 ≤ findB 62 p) ∧ Hid (Pool w wr [ownP 79 2 fwEnc (.slice A2 k c2) (((parts s).take k).map fwOf), ownP 9 1 strEnc (.slice A n c) (parts s)])) (fun _ i _ => n - (intOf i).toNat)
  case atStart => exact ⟨0, _, 0, Nat.zero_le _, Nat.zero_le _, rfl, rfl, (fun p hp => by simp at hp), H1.out⟩
  case round =>
    clear H1
    obtain ⟨k, A2, c2, hk, hk31, rfl, rfl, HF, H⟩ := hrel
    by_cases hlt : k < n ∧ k ≤ 30
    · obtain ⟨hlt, h30⟩ := hlt
      obtain ⟨x, hx⟩ : ∃ x, (parts s)[k]? = some x := ⟨_, List.getElem?_eq_getElem (by have := Hln.out; omega)⟩
      have hxz := Hz.out x (List.mem_of_getElem? hx)
      obtain ⟨ad, rfl, hab, c0⟩ := ((H.out.own 1 rfl).rd strEnc_len).one hx rfl
      have Hx := Lib.hid hx
      have hltI : (k : Int) < (n : Int) := by omega
      have h30I : (k : Int) ≤ 30 := by omega
      have KF : Hid (∀ w, Calls Tryd.prog 35 #[.string x, .int .u8 62] w fun e w' => e = .returned (.int .i64 (findB 62 x)) ∧ w = w') := fun w => specFind x 62 62 rfl hxz w
      clear hx
      by_cases hf : findB 62 x < 0
      · have Hr : Hid (parseFw s = ([], false)) := parseFw_no Hd.out (List.mem_of_getElem? Hx.out) hf
        have hfn := findB_neg hf
        rw [hfn] at KF
        have H3 : Hid (Pool w (wr.alloc (Obj.cells #[] 79)) [ownP 79 2 fwEnc (.slice (some ⟨wr.heap.size, 0, none⟩) 0 0) []]) := (H.out.none_).addOwn ((Below.refl _ _).alloc (Nat.le_refl _) _) (Own.lit0 wr 79 2 fwEnc)
        clear hf hfn
        go_wp2_with (go_at_call 35; refine (KF.out _).mono ?_; rintro e w2 ⟨rfl, rfl⟩)
        go_ret2
        show FwPR _ _ _ _
        rw [Hr.out]
        exact ⟨_, 0, 0, rfl, H3.out.res 0 rfl, H3.out.below⟩
      · have hf0 : 0 ≤ findB 62 x := by omega
        have Hf := Lib.hid hf0
        obtain ⟨i, hi, hix, hbe, haf⟩ := findB_bd hf0
        rw [hi] at KF
        have Hlen := Lib.hid (H.out.own 0 rfl).len
        have Ht : Hid (((parts s).take (k + 1)).map fwOf = ((parts s).take k).map fwOf ++ [(x.extract 0 i, x.extract (i + 1) x.size)]) := by
          show _ = _
          rw [List.take_add_one, Hx.out, List.map_append, ← hbe, ← haf]; rfl
        have Hfd : Hid (∀ p ∈ (parts s).take (k + 1), 0 ≤ findB 62 p) := fun p hp => by
          rw [List.take_add_one, Hx.out] at hp
          rcases List.mem_append.1 hp with hp | hp
          · exact HF.out p hp
          · have hp := List.mem_singleton.1 (show p ∈ [x] from hp)
            subst hp; exact Hf.out
        have i0 : (0 : Int) ≤ (i : Int) := by omega
        have i1 : (i : Int) ≤ (x.size : Int) := by omega
        have i2 : (0 : Int) ≤ (i : Int) + 1 := by omega
        have i3 : (i : Int) + 1 ≤ (x.size : Int) := by omega
        have i9 : IntKind.i64.wrap ((i : Int) + 1) = (i : Int) + 1 := by rw [IntKind.wrap_i64]; omega
        have i4 : ((i : Int) + 1).toNat = i + 1 := by omega
        have i5 : i + 1 ≤ x.size := by omega
        have i6 : ¬ (i : Int) + 1 < 0 := by omega
        have i7 : ¬ (x.size : Int) < (i : Int) + 1 := by omega
        have i8 : i ≤ x.size := by omega
        have HD := Lib.hid (H.out.drew1.alloc (Obj.cells #[.string (x.extract 0 i), .string (x.extract (i + 1) x.size)] 79))
        obtain ⟨j0, ji, jz0, jz1, jz2⟩ := info_parts fw_info
        have Hraw : Hid ((wr.drew.alloc (Obj.cells #[.string (x.extract 0 i), .string (x.extract (i + 1) x.size)] 79)).ownsRow 0 79 2 (.slice A2 k c2) k ((((parts s).take k).map fwOf).flatMap fwEnc)) := by
          have h1 := HD.out.own 0 rfl
          unfold Own at h1
          rw [← Hlen.out] at h1
          exact h1
        have Hnews : Hid (∀ (j : Nat) (z : Value), (fwEnc (x.extract 0 i, x.extract (i + 1) x.size))[j]? = some z → (wr.drew.alloc (Obj.cells #[.string (x.extract 0 i), .string (x.extract (i + 1) x.size)] 79)).cell? (Addr.add ⟨wr.heap.size, 0, none⟩ j) = some z) := fwEnc_cells _ rfl
        clear hf hf0 hi hbe haf
        go_wp2_with (go_at_call 35; refine (KF.out _).mono ?_; rintro e w2 ⟨rfl, rfl⟩)
        go_region_law (refine step_append_lies _ (by rfl) (.tmp 32) (.tmp 47) 43 (by rfl) 0 79 j0 _ 2 32 Tryd.underlying43 ji jz0 jz1 jz2 rfl (by decide) (.slice A2 k c2) k _ (by rfl) Hraw.out _ 1 1 (fwEnc (x.extract 0 i, x.extract (i + 1) x.size)) (by rfl) (by rfl) Hnews.out (fwEnc_one _) (by decide) (by unfold maxLen; omega) (by omega) (Nat.zero_le _) _ rfl ?_; intro g3 c3 w5 hown5 hg5 hat5 hlt5)
        all_goals
          have HE := Lib.hid (HD.out.append 0 rfl (own_push hown5 Hlen.out) hg5 (fun q e => by injection e with e; subst e; rcases hat5 with h' | h'; exact .inl h'; exact .inr (by rw [h']; exact Nat.le_refl _)))
          rw [← Ht.out] at HE
          clear hown5 hg5 hat5 hlt5
          go_wp2
          go_roundw
          case rel => exact ⟨k + 1, _, c3, by omega, by omega, by go_num, rfl, Hfd.out, HE.out⟩
          case measure => simp [intOf]; omega
    · have hlast : k = n ∨ k = 31 := by omega
      have hcond : (k : Int) < (n : Int) → ¬ (k : Int) ≤ 30 := by omega
      have htk : (parts s).take k = (parts s).take 31 := by
        rcases hlast with h | h
        · have := Hln.out
          rw [List.take_of_length_le (by omega), List.take_of_length_le (by omega)]
        · rw [h]
      rw [htk] at HF H
      obtain ⟨L, hL⟩ : ∃ L, ((parts s).take 31).map fwOf = L := ⟨_, rfl⟩
      have hsp := parseFw_spec Hd.out HF.out
      rw [hL] at H hsp
      have Hsp := Lib.hid hsp
      have HzL : Hid (∀ x ∈ L, x.1.size ≤ 1048576 ∧ x.2.size ≤ 1048576) := fun x hx => by
        rw [← hL] at hx
        obtain ⟨p, hp, rfl⟩ := List.mem_map.1 hx
        exact fwOf_size (Hz.out p (List.mem_of_mem_take hp))
      have Hlen := Lib.hid (H.out.own 0 rfl).len
      obtain ⟨G, hG⟩ : ∃ G, fmtOf L = G := ⟨_, rfl⟩
      have KG : Hid (Calls Tryd.prog 28 #[.slice A2 k c2] wr fun e w' => e = .returned (.string G) ∧ Below wr.heap.size wr w') := by
        have := specFormat A2 L k c2 Hlen.out wr (by omega) HzL.out ((H.out.own 0 rfl).rd fwEnc_len)
        rw [hG] at this; exact this
      rw [hG] at Hsp
      clear hsp hL htk hG
      have hlI : (k : Int) < (n : Int) ∨ ¬ (k : Int) < (n : Int) := by omega
      by_cases he : G = s
      · have Hr : Hid (parseFw s = (L, true)) := by show _ = _; rw [← Hsp.out, if_pos he]
        have hq2 := str_t he
        clear he
        rcases hlI with hlI | hlI
        · have h30I := hcond hlI
          clear hcond hlast
          go_wp2_with (go_at_call 28; refine KG.out.mono ?_; rintro e w2 ⟨rfl, hb⟩; have H3 := Lib.hid (H.out.step hb))
          go_ret2
          show FwPR _ _ _ _
          rw [Hr.out]
          exact ⟨_, _, _, rfl, H3.out.res 0 rfl, H3.out.below⟩
        · clear hcond hlast
          go_wp2_with (go_at_call 28; refine KG.out.mono ?_; rintro e w2 ⟨rfl, hb⟩; have H3 := Lib.hid (H.out.step hb))
          go_ret2
          show FwPR _ _ _ _
          rw [Hr.out]
          exact ⟨_, _, _, rfl, H3.out.res 0 rfl, H3.out.below⟩
      · have Hr : Hid (parseFw s = ([], false)) := by show _ = _; rw [← Hsp.out, if_neg he]
        have hq2 := str_f he
        clear he
        rcases hlI with hlI | hlI
        · have h30I := hcond hlI
          clear hcond hlast
          go_wp2_with (go_at_call 28; refine KG.out.mono ?_; rintro e w2 ⟨rfl, hb⟩; have H3 := Lib.hid (H.out.step hb))
          have H4 : Hid (Pool w (w2.alloc (Obj.cells #[] 79)) [ownP 79 2 fwEnc (.slice (some ⟨w2.heap.size, 0, none⟩) 0 0) []]) := (H3.out.none_).addOwn ((Below.refl _ _).alloc (Nat.le_refl _) _) (Own.lit0 w2 79 2 fwEnc)
          go_ret2
          show FwPR _ _ _ _
          rw [Hr.out]
          exact ⟨_, 0, 0, rfl, H4.out.res 0 rfl, H4.out.below⟩
        · clear hcond hlast
          go_wp2_with (go_at_call 28; refine KG.out.mono ?_; rintro e w2 ⟨rfl, hb⟩; have H3 := Lib.hid (H.out.step hb))
          have H4 : Hid (Pool w (w2.alloc (Obj.cells #[] 79)) [ownP 79 2 fwEnc (.slice (some ⟨w2.heap.size, 0, none⟩) 0 0) []]) := (H3.out.none_).addOwn ((Below.refl _ _).alloc (Nat.le_refl _) _) (Own.lit0 w2 79 2 fwEnc)
          go_ret2
          show FwPR _ _ _ _
          rw [Hr.out]
          exact ⟨_, 0, 0, rfl, H4.out.res 0 rfl, H4.out.below⟩
end Go.Proofs.YtjibjoapbjojlaaDoor
