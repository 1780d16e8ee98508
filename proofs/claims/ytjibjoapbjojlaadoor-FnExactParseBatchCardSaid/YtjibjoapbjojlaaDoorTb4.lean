/-
  Letters out of their text: the reference's.
-/
import Derived.Test.YtjibjoapbjojlaaDoorTb3
namespace Go.Proofs.YtjibjoapbjojlaaDoor
open Go.RowKit

set_option maxHeartbeats 4000000 in
set_option maxRecDepth 100000 in
theorem specParseBatch (s : Str) (hs : s.size ≤ 1048576) (w : World) :
    Calls Tryd.prog 7 #[.string s] w fun e w' => LtPR (parseLt s) w e w' := by
  have H0 : Hid (Pool w (w.alloc (Obj.cells #[] 55)) [ownP 55 2 ltEnc (.slice (some ⟨w.heap.size, 0, none⟩) 0 0) []]) := (Pool.nil_ w).addOwn ((Below.refl _ _).alloc (Nat.le_refl _) _) (Own.lit0 w 55 2 ltEnc)
  by_cases hd : s = cDash
  · have hq : (ByteArray.toList s == [45]) = true := by
      have := str_t (b := (⟨#[45]⟩ : Str)) hd
      simpa using this
    have Hr : Hid (parseLt s = ([], true)) := by show _ = _; rw [hd]; exact parseLt_dash
    clear hd
    go_enter Tryd.func7, Tryd.ntmps7
    go_wp2
    go_ret2
    show LtPR _ _ _ _
    rw [Hr.out]
    exact ⟨_, 0, 0, rfl, H0.out.res 0 rfl, H0.out.below⟩
  have hq : (ByteArray.toList s == [45]) = false := by
    have := str_f (b := (⟨#[45]⟩ : Str)) hd
    simpa using this
  have Hd := Lib.hid hd
  have Hz : Hid (∀ x ∈ parts s, x.size ≤ 1048576) := fun x hx => by have := parts_size hx; omega
  clear hd
  go_enter Tryd.func7, Tryd.ntmps7
  go_wp2_with fail
  refine (specCut s 32 rfl hs _).mono ?_
  rintro e w1 ⟨A, n, c, rfl, ho, hb⟩
  have H1 := Lib.hid ((H0.out.addOwn hb ho).perm (List.Perm.swap _ _ _))
  have Hln := Lib.hid (H1.out.own 1 rfl).len
  have hnb : n ≤ 1048577 := by have := Hln.out; have := parts_len s; omega
  clear ho hb H0
  go_wp2_with fail
  go_loopw [4, 6] (fun o i wr => ∃ (k : Nat) (A2 : Option Addr) (c2 : Nat), k ≤ n ∧ k ≤ 61 ∧ i = .int .i64 k ∧ o = .slice A2 k c2 ∧ Hid (∀ p ∈ (parts s).take k, 0 ≤ findB 58 p) ∧ Hid (Pool w wr [ownP 55 2 ltEnc (.slice A2 k c2) (((parts s).take k).map ltOfS), ownP 9 1 strEnc (.slice A n c) (parts s)])) (fun _ i _ => n - (intOf i).toNat)
  case atStart => exact ⟨0, _, 0, Nat.zero_le _, Nat.zero_le _, rfl, rfl, (fun p hp => by simp at hp), H1.out⟩
  case round =>
    clear H1
    obtain ⟨k, A2, c2, hk, hk61, rfl, rfl, HF, H⟩ := hrel
    by_cases hlt : k < n ∧ k ≤ 60
    · obtain ⟨hlt, h60⟩ := hlt
      obtain ⟨x, hx⟩ : ∃ x, (parts s)[k]? = some x := ⟨_, List.getElem?_eq_getElem (by have := Hln.out; omega)⟩
      have hxz := Hz.out x (List.mem_of_getElem? hx)
      obtain ⟨ad, rfl, hab, c0⟩ := ((H.out.own 1 rfl).rd strEnc_len).one hx rfl
      have Hx := Lib.hid hx
      have hltI : (k : Int) < (n : Int) := by omega
      have h60I : (k : Int) ≤ 60 := by omega
      have KF : Hid (∀ w, Calls Tryd.prog 35 #[.string x, .int .u8 58] w fun e w' => e = .returned (.int .i64 (findB 58 x)) ∧ w = w') := fun w => specFind x 58 58 rfl hxz w
      clear hx
      by_cases hf : findB 58 x < 0
      · have Hr : Hid (parseLt s = ([], false)) := parseLt_no Hd.out (List.mem_of_getElem? Hx.out) hf
        have hfn := findB_neg hf
        rw [hfn] at KF
        have H3 : Hid (Pool w (wr.alloc (Obj.cells #[] 55)) [ownP 55 2 ltEnc (.slice (some ⟨wr.heap.size, 0, none⟩) 0 0) []]) := (H.out.none_).addOwn ((Below.refl _ _).alloc (Nat.le_refl _) _) (Own.lit0 wr 55 2 ltEnc)
        clear hf hfn
        go_wp2_with (go_at_call 35; refine (KF.out _).mono ?_; rintro e w2 ⟨rfl, rfl⟩)
        go_ret2
        show LtPR _ _ _ _
        rw [Hr.out]
        exact ⟨_, 0, 0, rfl, H3.out.res 0 rfl, H3.out.below⟩
      · have hf0 : 0 ≤ findB 58 x := by omega
        have Hf := Lib.hid hf0
        obtain ⟨i, hi, hix, hbe, haf⟩ := findB_bd hf0
        rw [hi] at KF
        have Hlen := Lib.hid (H.out.own 0 rfl).len
        obtain ⟨N, hN⟩ : ∃ N, numVal (x.extract 0 i).data.toList = N := ⟨_, rfl⟩
        obtain ⟨ok, hok⟩ : ∃ ok, numOk (x.extract 0 i).data.toList = ok := ⟨_, rfl⟩
        have KN : Hid (∀ w, Calls Tryd.prog 36 #[.string (x.extract 0 i)] w fun e w' => e = .returned (.tuple #[.int .i64 N, .bool ok]) ∧ w = w') := fun w => by
          rw [← hN, ← hok]; exact specNum (x.extract 0 i) (by rw [ByteArray.size_extract]; omega) w
        have Ht : Hid (((parts s).take (k + 1)).map ltOfS = ((parts s).take k).map ltOfS ++ [(N, x.extract (i + 1) x.size)]) := by
          show _ = _
          rw [List.take_add_one, Hx.out, List.map_append, ← hN, ← hbe, ← haf]; rfl
        have Hfd : Hid (∀ p ∈ (parts s).take (k + 1), 0 ≤ findB 58 p) := fun p hp => by
          rw [List.take_add_one, Hx.out] at hp
          rcases List.mem_append.1 hp with hp | hp
          · exact HF.out p hp
          · have hp := List.mem_singleton.1 (show p ∈ [x] from hp)
            subst hp; exact Hf.out
        have i0 : (0 : Int) ≤ (i : Int) := by omega
        have i1 : (i : Int) ≤ (x.size : Int) := by omega
        have i2 : (0 : Int) ≤ (i : Int) + 1 := by omega
        have i3 : (i : Int) + 1 ≤ (x.size : Int) := by omega
        have HD : Hid (Pool w (wr.alloc (Obj.cells #[.int .i64 N, .string (x.extract (i + 1) x.size)] 55)) [ownP 55 2 ltEnc (.slice A2 k c2) (((parts s).take k).map ltOfS), ownP 9 1 strEnc (.slice (some ad) n c) (parts s)]) := H.out.alloc _
        clear hf hf0 hi hbe haf hN hok
        go_wp2_with (first
          | (go_at_call 35; refine (KF.out _).mono ?_; rintro e w2 ⟨rfl, rfl⟩)
          | (go_at_call 36; refine (KN.out _).mono ?_; rintro e w2 ⟨rfl, rfl⟩)
          | (at_builtin; refine wpList_append1L (.tmp 44) (.tmp 54) 22 55 lt_info Tryd.underlying22 rfl (by decide) rfl rfl (N, x.extract (i + 1) x.size) rfl Hlen.out (HD.out.own 0 rfl) rfl ltEnc_len (ltEnc_cells (N, x.extract (i + 1) x.size) rfl) (ltEnc_one _) (by omega) (by omega) (Nat.zero_le _) ?_; intro g3 c3 w5 ho3 hg3 hat3))
        have HE := Lib.hid (HD.out.append 0 rfl ho3 hg3 (fun q e => by injection e with e; subst e; exact hat3))
        rw [← Ht.out] at HE
        clear ho3 hg3 hat3
        go_roundw
        case rel => exact ⟨k + 1, _, c3, by omega, by omega, by go_num, rfl, Hfd.out, HE.out⟩
        case measure => simp [intOf]; omega
    · have hlast : k = n ∨ k = 61 := by omega
      have hcond : (k : Int) < (n : Int) → ¬ (k : Int) ≤ 60 := by omega
      have htk : (parts s).take k = (parts s).take 61 := by
        rcases hlast with h | h
        · have := Hln.out
          rw [List.take_of_length_le (by omega), List.take_of_length_le (by omega)]
        · rw [h]
      rw [htk] at HF H
      obtain ⟨L, hL⟩ : ∃ L, ((parts s).take 61).map ltOfS = L := ⟨_, rfl⟩
      have hsp := parseLt_spec Hd.out HF.out
      rw [hL] at H hsp
      have Hsp := Lib.hid hsp
      have HzL : Hid (∀ x ∈ L, x.2.size ≤ 1048576) := fun x hx => by
        rw [← hL] at hx
        obtain ⟨p, hp, rfl⟩ := List.mem_map.1 hx
        exact ltOfS_size (Hz.out p (List.mem_of_mem_take hp))
      have Hlen := Lib.hid (H.out.own 0 rfl).len
      obtain ⟨G, hG⟩ : ∃ G, fmtB L = G := ⟨_, rfl⟩
      have KG : Hid (Calls Tryd.prog 14 #[.slice A2 k c2] wr fun e w' => e = .returned (.string G) ∧ Below wr.heap.size wr w') := by
        have := specFormatBatch A2 L k c2 Hlen.out wr (by omega) HzL.out ((H.out.own 0 rfl).rd ltEnc_len)
        rw [hG] at this; exact this
      rw [hG] at Hsp
      clear hsp hL htk hG
      have hlI : (k : Int) < (n : Int) ∨ ¬ (k : Int) < (n : Int) := by omega
      by_cases he : G = s
      · have Hr : Hid (parseLt s = (L, true)) := by show _ = _; rw [← Hsp.out, if_pos he]
        have hq2 := str_t he
        clear he
        rcases hlI with hlI | hlI
        · have h60I := hcond hlI
          clear hcond hlast
          go_wp2_with (go_at_call 14; refine KG.out.mono ?_; rintro e w2 ⟨rfl, hb⟩; have H3 := Lib.hid (H.out.step hb))
          go_ret2
          show LtPR _ _ _ _
          rw [Hr.out]
          exact ⟨_, _, _, rfl, H3.out.res 0 rfl, H3.out.below⟩
        · clear hcond hlast
          go_wp2_with (go_at_call 14; refine KG.out.mono ?_; rintro e w2 ⟨rfl, hb⟩; have H3 := Lib.hid (H.out.step hb))
          go_ret2
          show LtPR _ _ _ _
          rw [Hr.out]
          exact ⟨_, _, _, rfl, H3.out.res 0 rfl, H3.out.below⟩
      · have Hr : Hid (parseLt s = ([], false)) := by show _ = _; rw [← Hsp.out, if_neg he]
        have hq2 := str_f he
        clear he
        rcases hlI with hlI | hlI
        · have h60I := hcond hlI
          clear hcond hlast
          go_wp2_with (go_at_call 14; refine KG.out.mono ?_; rintro e w2 ⟨rfl, hb⟩; have H3 := Lib.hid (H.out.step hb))
          have H4 : Hid (Pool w (w2.alloc (Obj.cells #[] 55)) [ownP 55 2 ltEnc (.slice (some ⟨w2.heap.size, 0, none⟩) 0 0) []]) := (H3.out.none_).addOwn ((Below.refl _ _).alloc (Nat.le_refl _) _) (Own.lit0 w2 55 2 ltEnc)
          go_ret2
          show LtPR _ _ _ _
          rw [Hr.out]
          exact ⟨_, 0, 0, rfl, H4.out.res 0 rfl, H4.out.below⟩
        · clear hcond hlast
          go_wp2_with (go_at_call 14; refine KG.out.mono ?_; rintro e w2 ⟨rfl, hb⟩; have H3 := Lib.hid (H.out.step hb))
          have H4 : Hid (Pool w (w2.alloc (Obj.cells #[] 55)) [ownP 55 2 ltEnc (.slice (some ⟨w2.heap.size, 0, none⟩) 0 0) []]) := (H3.out.none_).addOwn ((Below.refl _ _).alloc (Nat.le_refl _) _) (Own.lit0 w2 55 2 ltEnc)
          go_ret2
          show LtPR _ _ _ _
          rw [Hr.out]
          exact ⟨_, 0, 0, rfl, H4.out.res 0 rfl, H4.out.below⟩
end Go.Proofs.YtjibjoapbjojlaaDoor
