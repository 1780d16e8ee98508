/-
  Sources of a code: the program's and the reference's.
-/
import Derived.Test.YtdpmjohfjpohjaaDirB
namespace Go.Proofs.Ytdpmjohfjpohjaa
open Go.RowKit

set_option maxHeartbeats 2000000 in
set_option maxRecDepth 100000 in
theorem implSources (A : Option Addr) (l : List Fw) (n cap : Nat) (hl : n = l.length) (hcap : n ≤ cap) (c : Str) (w : World) (hn : n ≤ 1048576) (hs : ∀ x ∈ l, x.1.size ≤ 1048576 ∧ x.2.size ≤ 1048576) (h : Rd w 2 fwEnc A l) :
    Calls Try.prog 43 #[.slice A n cap, .string c] w fun e w' => StRes w w' (sourcesOf l c) e := by
  have Hl := Lib.hid hl
  have Hr := Lib.hid h
  have Hs := Lib.hid hs
  clear h hs hl
  have hdl := directOf_len l
  obtain ⟨D, hD⟩ : ∃ D, directOf l = D := ⟨_, rfl⟩
  have Hn : Hid (sourcesOf l c = srcRaw c D) := by show _ = _; unfold sourcesOf; rw [hD]
  have HD := Lib.hid hD
  rw [hD] at hdl
  have Hdl := Lib.hid hdl
  clear hD hdl
  go_enter Try.func43, Try.ntmps43
  go_wp2_with fail
  refine (implDirect _ l _ _ Hl.out hcap _ hn Hs.out Hr.out).mono ?_
  rw [HD.out]
  rintro e w1 ⟨A1, n1, c1, rfl, ho, hb⟩
  have H1 : Hid (Pool w w1 [ownP 9 1 strEnc (.slice none 0 0) [], ownP 52 2 fwEnc (.slice A1 n1 c1) D]) := ((Pool.nil_ w).addOwn hb ho).add (Below.refl _ _) (ownP 9 1 strEnc (.slice none 0 0) []) (Own.nil_ _ _ _ _ _) (fun k hk => by simp [ownP, Value.ownBlock] at hk)
  have hn1 := ho.len
  have Hn1 := Lib.hid hn1
  have hn1b : n1 ≤ 1048576 := by have := Hdl.out; have := Hl.out; omega
  clear ho hb hn1
  go_wp2_with fail
  go_loopw [5, 11] (fun t i wr => ∃ (k m : Nat) (B : Option Addr) (b : Nat), k ≤ n1 ∧ m ≤ k ∧ i = .int .i64 k ∧ t = .slice B m b ∧ Hid (Pool w wr [ownP 9 1 strEnc (.slice B m b) (srcRaw c (D.take k)), ownP 52 2 fwEnc (.slice A1 n1 c1) D])) (fun _ i _ => n1 - (intOf i).toNat)
  case atStart => exact ⟨0, 0, none, 0, Nat.zero_le _, Nat.le_refl _, rfl, rfl, H1.out⟩
  case round =>
    clear H1
    obtain ⟨k, m, B, b, hk, hm, rfl, rfl, H⟩ := hrel
    by_cases hlt : k < n1
    · obtain ⟨x, hx⟩ : ∃ x, D[k]? = some x := ⟨_, List.getElem?_eq_getElem (by have := Hn1.out; omega)⟩
      obtain ⟨ad, rfl, hab, c0, c1'⟩ := ((H.out.own 1 rfl).rd fwEnc_len).two hx rfl
      have H2 := Lib.hid (H.out.alloc (Obj.cells #[.string x.1, .string x.2] 52))
      by_cases hc : x.2 = c
      · have hq := str_t hc
        have Hy := Lib.hid (srcRaw_yes hx hc)
        clear hc hx
        go_wp2_with (at_builtin; refine st_append1 (.tmp 19) (.tmp 22) 43 9 st_info Try.underlying43 rfl (by decide) rfl rfl x.1 rfl (H2.out.own 0 rfl).len ((H2.out.alloc _).own 0 rfl) rfl strEnc_len (st_cells x.1 (by simp)) (st_one _) (by omega) (by omega) (Nat.zero_le _) ?_; intro rg rc rw ro rh rat)
        have H5 := Lib.hid ((H2.out.alloc (Obj.cells #[.string x.1] 9)).append 0 rfl ro rh (fun q e => by injection e with e; subst e; exact rat))
        clear ro rh rat
        go_roundw
        case rel => exact ⟨k + 1, m + 1, _, rc, by omega, by omega, by go_num, rfl, by rw [Hy.out]; exact H5.out⟩
        case measure => simp [intOf]; omega
      · have hq := str_f hc
        have Hy := Lib.hid (srcRaw_no hx hc)
        clear hc hx
        go_wp2
        go_roundw
        case rel => exact ⟨k + 1, m, B, b, by omega, by omega, by go_num, rfl, by rw [Hy.out]; exact H2.out⟩
        case measure => simp [intOf]; omega
    · obtain rfl : k = n1 := by omega
      have Ht : Hid (srcRaw c (D.take k) = srcRaw c D) := by show _ = _; rw [List.take_of_length_le (by rw [Hn1.out]; exact Nat.le_refl _)]
      have ho := H.out.res 0 rfl
      rw [Ht.out] at ho
      have Ho := Lib.hid ho
      clear ho
      go_wp2
      go_ret
      exact ⟨B, m, b, rfl, by rw [Hn.out]; exact Ho.out, H.out.below⟩

set_option maxHeartbeats 2000000 in
set_option maxRecDepth 100000 in
theorem specSources (A : Option Addr) (l : List Fw) (n cap : Nat) (hl : n = l.length) (c : Str) (w : World) (hn : n ≤ 1048576) (hs : ∀ x ∈ l, x.1.size ≤ 1048576 ∧ x.2.size ≤ 1048576) (h : Rd w 2 fwEnc A l) :
    Calls Try.prog 42 #[.slice A n cap, .string c] w fun e w' => StRes w w' (sourcesOf l c) e := by
  have Hl := Lib.hid hl
  have Hr := Lib.hid h
  have Hs := Lib.hid hs
  clear h hs hl
  cases hv : fwsOk l
  · have Hn : Hid (sourcesOf l c = []) := sources_bad hv c
    have Hv := Lib.hid hv
    clear hv
    by_cases h0 : 0 < n
    all_goals
      go_enter Try.func42, Try.ntmps42
      go_wp2
      go_loopw [5, 6] (fun o i wr => o = .slice (some ⟨w.heap.size, 0, none⟩) 0 0 ∧ i = .int .i64 0 ∧ wr = w.alloc (.cells #[] 9)) (fun _ _ _ => 0)
      case atStart => exact ⟨rfl, rfl, rfl⟩
      case round =>
        obtain ⟨rfl, rfl, rfl⟩ := hrel
        first
          | (go_wp2_with fail
             refine (specForwardsValid _ l _ _ Hl.out _ (by omega) Hs.out (Hr.out.below ((Below.refl _ _).alloc (Nat.le_refl _) _))).mono ?_
             rw [Hv.out]
             rintro e w1 ⟨rfl, rfl⟩
             go_wp2
             go_ret
             exact ⟨_, 0, 0, rfl, by rw [Hn.out]; exact Own.lit0 w 9 1 strEnc, (Below.refl _ _).alloc (Nat.le_refl _) _⟩)
          | (go_wp2
             go_ret
             exact ⟨_, 0, 0, rfl, by rw [Hn.out]; exact Own.lit0 w 9 1 strEnc, (Below.refl _ _).alloc (Nat.le_refl _) _⟩)
  · have Hn : Hid (sourcesOf l c = insAll (srcIns l c l)) := (sources_ins hv c).symm
    have Hv := Lib.hid hv
    clear hv
    go_enter Try.func42, Try.ntmps42
    go_wp2
    go_loopw [5, 6] (fun o i wr => ∃ (k m : Nat) (B : Option Addr) (b : Nat), k ≤ n ∧ m ≤ k ∧ i = .int .i64 k ∧ o = .slice B m b ∧ Hid (Pool w wr [ownP 9 1 strEnc (.slice B m b) (insAll (srcIns l c (l.take k)))])) (fun _ i _ => n - (intOf i).toNat)
    case atStart => exact ⟨0, 0, _, 0, Nat.zero_le _, Nat.le_refl _, rfl, rfl, (Pool.nil_ w).addOwn ((Below.refl _ _).alloc (Nat.le_refl _) _) (Own.lit0 w 9 1 strEnc)⟩
    case round =>
      obtain ⟨k, m, B, b, hk, hm, rfl, rfl, H⟩ := hrel
      by_cases hlt : k < n
      · obtain ⟨x, hx⟩ : ∃ x, l[k]? = some x := ⟨_, List.getElem?_eq_getElem (by have := Hl.out; omega)⟩
        obtain ⟨ad, rfl, hab, c0, c1⟩ := (Hr.out.below H.out.below).two hx rfl
        cases hf : follow l x.1 with
        | none =>
          have Hf := Lib.hid hf
          have Hy := Lib.hid (srcIns_no (c := c) hx hf)
          clear hx hf
          go_wp2_with fail
          refine (specForwardsValid _ l _ _ Hl.out _ (by omega) Hs.out (Hr.out.below H.out.below)).mono ?_
          rw [Hv.out]
          rintro e w1 ⟨rfl, rfl⟩
          go_wp2_with fail
          refine (specFollow _ l _ _ Hl.out _ _ (by omega) (Hr.out.below H.out.below)).mono ?_
          rw [Hf.out, show resVal none = .tuple #[.string ByteArray.empty, .int .i64 0, .bool false] from rfl]
          rintro e w2 ⟨rfl, rfl⟩
          go_wp2
          go_roundw
          case rel => exact ⟨k + 1, m, B, b, by omega, by omega, by go_num, rfl, by rw [Hy.out]; exact H.out⟩
          case measure => simp [intOf]; omega
        | some r =>
          obtain ⟨t, q⟩ := r
          by_cases htc : t = c
          · subst htc
            have hq := str_t (a := t) rfl
            have Hf := Lib.hid hf
            have Hy := Lib.hid (srcIns_yes hx hf)
            clear hx hf
            go_wp2_with fail
            refine (specForwardsValid _ l _ _ Hl.out _ (by omega) Hs.out (Hr.out.below H.out.below)).mono ?_
            rw [Hv.out]
            rintro e w1 ⟨rfl, rfl⟩
            go_wp2_with fail
            refine (specFollow _ l _ _ Hl.out _ _ (by omega) (Hr.out.below H.out.below)).mono ?_
            rw [Hf.out, show resVal (some (t, q)) = .tuple #[.string t, .int .i64 q, .bool true] from rfl]
            rintro e w2 ⟨rfl, rfl⟩
            go_wp2_with fail
            refine (specInsert _ _ _ _ _ (H.out.own 0 rfl).len _ (by omega) ((H.out.own 0 rfl).rd strEnc_len)).mono ?_
            rintro e w2 ⟨B2, b2, rfl, ho2, hb2⟩
            have H2 := Lib.hid ((H.out.addOwn hb2 ho2).drop 1)
            clear ho2 hb2
            go_wp2
            go_roundw
            case rel => exact ⟨k + 1, m + 1, B2, b2, by omega, by omega, by go_num, rfl, by rw [Hy.out, insAll_push]; exact H2.out⟩
            case measure => simp [intOf]; omega
          · have hq := str_f htc
            have Hf := Lib.hid hf
            have Hy := Lib.hid (srcIns_other hx hf htc)
            clear hx hf htc
            go_wp2_with fail
            refine (specForwardsValid _ l _ _ Hl.out _ (by omega) Hs.out (Hr.out.below H.out.below)).mono ?_
            rw [Hv.out]
            rintro e w1 ⟨rfl, rfl⟩
            go_wp2_with fail
            refine (specFollow _ l _ _ Hl.out _ _ (by omega) (Hr.out.below H.out.below)).mono ?_
            rw [Hf.out, show resVal (some (t, q)) = .tuple #[.string t, .int .i64 q, .bool true] from rfl]
            rintro e w2 ⟨rfl, rfl⟩
            go_wp2
            go_roundw
            case rel => exact ⟨k + 1, m, B, b, by omega, by omega, by go_num, rfl, by rw [Hy.out]; exact H.out⟩
            case measure => simp [intOf]; omega
      · obtain rfl : k = n := by omega
        have Ht : Hid (insAll (srcIns l c (l.take k)) = insAll (srcIns l c l)) := by show _ = _; rw [List.take_of_length_le (by rw [Hl.out]; exact Nat.le_refl _)]
        have ho := H.out.res 0 rfl
        rw [Ht.out] at ho
        have Ho := Lib.hid ho
        clear ho
        go_wp2
        go_ret
        exact ⟨B, m, b, rfl, by rw [Hn.out]; exact Ho.out, H.out.below⟩
end Go.Proofs.Ytdpmjohfjpohjaa
