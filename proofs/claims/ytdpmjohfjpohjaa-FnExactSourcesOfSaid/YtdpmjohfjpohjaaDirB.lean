/-
  Direct orders: the program's and the reference's walks.
-/
import Derived.Test.YtdpmjohfjpohjaaDirA
namespace Go.Proofs.Ytdpmjohfjpohjaa
open Go.RowKit

/-- A list of orders of its own is returned. -/
def FwLRes (w w' : World) (l : List Fw) (e : Ending) : Prop := ∃ A n c, e = .returned (.slice A n c) ∧ Own w' w.heap.size 52 2 fwEnc (.slice A n c) l ∧ Below w.heap.size w w'

set_option maxHeartbeats 2000000 in
set_option maxRecDepth 100000 in
theorem implDirect (A : Option Addr) (l : List Fw) (n cap : Nat) (hl : n = l.length) (hcap : n ≤ cap) (w : World) (hn : n ≤ 1048576) (hs : ∀ x ∈ l, x.1.size ≤ 1048576 ∧ x.2.size ≤ 1048576) (h : Rd w 2 fwEnc A l) :
    Calls Try.prog 36 #[.slice A n cap] w fun e w' => FwLRes w w' (directOf l) e := by
  have Hl := Lib.hid hl
  have Hr := Lib.hid h
  have Hs := Lib.hid hs
  clear h hs hl
  cases hv : fwsOk l
  · have Hn : Hid (directOf l = []) := by show _ = _; unfold directOf; rw [hv]; rfl
    go_enter Try.func36, Try.ntmps36
    go_wp2_with fail
    refine (implForwardsValid _ l _ _ Hl.out hcap _ (by omega) Hs.out Hr.out).mono ?_
    rw [hv]
    rintro e w1 ⟨rfl, hb1⟩
    go_wp2
    go_ret
    exact ⟨none, 0, 0, rfl, by rw [Hn.out]; exact Own.nil_ _ _ _ _ _, hb1⟩
  · have Hv := Lib.hid hv
    go_enter Try.func36, Try.ntmps36
    go_wp2_with fail
    refine (implForwardsValid _ l _ _ Hl.out hcap _ (by omega) Hs.out Hr.out).mono ?_
    rw [hv]
    rintro e w1 ⟨rfl, hb1⟩
    clear hv
    have H1 : Hid (Pool w w1 [ownP 52 2 fwEnc (.slice none 0 0) []]) := (Pool.of_below hb1).add (Below.refl _ _) (ownP 52 2 fwEnc (.slice none 0 0) []) (Own.nil_ _ _ _ _ _) (fun k hk => by simp [ownP, Value.ownBlock] at hk)
    clear hb1
    go_wp2_with fail
    go_loopw [3, 14] (fun t i wr => ∃ (k m : Nat) (B : Option Addr) (b : Nat), k ≤ n ∧ m ≤ k ∧ i = .int .i64 k ∧ t = .slice B m b ∧ Hid (Pool w wr [ownP 52 2 fwEnc (.slice B m b) (dirRaw l (l.take k))])) (fun _ i _ => n - (intOf i).toNat)
    case atStart => exact ⟨0, 0, none, 0, Nat.zero_le _, Nat.le_refl _, rfl, rfl, H1.out⟩
    case round =>
      clear H1
      obtain ⟨k, m, B, b, hk, hm, rfl, rfl, H⟩ := hrel
      by_cases hlt : k < n
      · obtain ⟨x, hx⟩ : ∃ x, l[k]? = some x := ⟨_, List.getElem?_eq_getElem (by have := Hl.out; omega)⟩
        obtain ⟨ad, rfl, hab, c0, c1⟩ := (Hr.out.below H.out.below).two hx rfl
        have H2 := Lib.hid (H.out.alloc (Obj.cells #[.string x.1, .string x.2] 52))
        cases hf : follow l x.1 with
        | none =>
          have Hf := Lib.hid hf
          have Hy := Lib.hid (dirRaw_no hx hf)
          clear hx hf
          go_wp2_with fail
          refine (implFollow _ l _ _ Hl.out _ _ (by omega) (Hr.out.below H2.out.below)).mono ?_
          rw [Hf.out, show resVal none = .tuple #[.string ByteArray.empty, .int .i64 0, .bool false] from rfl]
          rintro e w2 ⟨rfl, hb2⟩
          have H3 := Lib.hid (H2.out.step hb2)
          clear hb2
          go_wp2
          go_roundw
          case rel => exact ⟨k + 1, m, B, b, by omega, by omega, by go_num, rfl, by rw [Hy.out]; exact H3.out⟩
          case measure => simp [intOf]; omega
        | some r =>
          obtain ⟨t, q⟩ := r
          have Hf := Lib.hid hf
          have Hy := Lib.hid (dirRaw_yes hx hf)
          clear hx hf
          go_wp2_with fail
          refine (implFollow _ l _ _ Hl.out _ _ (by omega) (Hr.out.below H2.out.below)).mono ?_
          rw [Hf.out, show resVal (some (t, q)) = .tuple #[.string t, .int .i64 q, .bool true] from rfl]
          rintro e w2 ⟨rfl, hb2⟩
          have d0 := below_cell hb2 (show (wr.alloc (Obj.cells #[.string x.1, .string x.2] 52)).cell? ⟨wr.heap.size, 0, none⟩ = some (.string x.1) from by rw [World.cell?_alloc_at _ _ _ _ rfl]; rfl)
          have H3 := Lib.hid (H2.out.step hb2)
          clear hb2
          go_wp2_with (at_builtin; refine st_append1 (.tmp 27) (.tmp 32) 25 52 fw_info Try.underlying25 rfl (by decide) rfl rfl ((x.1, t) : Fw) rfl (H3.out.own 0 rfl).len ((H3.out.alloc _).own 0 rfl) rfl fwEnc_len (fwEnc_cells (x.1, t) rfl) (fwEnc_one _) (by omega) (by omega) (Nat.zero_le _) ?_; intro rg rc rw ro rh rat)
          have H5 := Lib.hid ((H3.out.alloc (Obj.cells #[.string x.1, .string t] 52)).append 0 rfl ro rh (fun q e => by injection e with e; subst e; exact rat))
          clear ro rh rat
          go_roundw
          case rel => exact ⟨k + 1, m + 1, _, rc, by omega, by omega, by go_num, rfl, by rw [Hy.out]; exact H5.out⟩
          case measure => simp [intOf]; omega
      · obtain rfl : k = n := by omega
        have Ht : Hid (dirRaw l (l.take k) = dirRaw l l) := by show _ = _; rw [List.take_of_length_le (by rw [Hl.out]; exact Nat.le_refl _)]
        have ho := H.out.res 0 rfl
        rw [Ht.out] at ho
        have Ho := Lib.hid ho
        rcases ho.2 with ⟨e0, -⟩ | ⟨g, c', cur, e0, -⟩
        · injection e0 with e1 e2 e3
          subst e1 e2 e3
          have hz : dirRaw l l = [] := List.eq_nil_of_length_eq_zero Ho.out.len.symm
          have Hz : Hid (directOf l = []) := List.Perm.eq_nil (by have := directOf_perm Hv.out; rw [hz] at this; exact this)
          clear ho hz
          go_wp2_with fail
          refine (sortFwNil none 0 _ _).mono ?_
          rintro e w3 ⟨rfl, rfl⟩
          go_wp2
          go_ret
          exact ⟨none, 0, 0, rfl, by rw [Hz.out]; exact Own.nil_ _ _ _ _ _, H.out.below⟩
        · injection e0 with e1 e2 e3
          subst e1 e3
          clear e2 ho
          go_wp2_with fail
          refine (sliceSortFw g m b w.heap.size _ _ (by omega) Ho.out).mono ?_
          rintro e w3 ⟨rfl, l', hp, hs, ho3, hg3⟩
          have Hd : Hid (l' = directOf l) := direct_unique Hv.out hp hs
          have HO3 := Lib.hid ho3
          have HB3 := Lib.hid (below_ownS H.out.below hg3 Ho.out (Nat.le_refl _) H.out.below.size)
          clear ho3 hg3 hp hs
          go_wp2
          go_ret
          exact ⟨_, m, b, rfl, by rw [← Hd.out]; exact HO3.out, HB3.out⟩

set_option maxHeartbeats 4000000 in
set_option maxRecDepth 100000 in
theorem specDirect (A : Option Addr) (l : List Fw) (n cap : Nat) (hl : n = l.length) (w : World) (hn : n ≤ 1048576) (hs : ∀ x ∈ l, x.1.size ≤ 1048576 ∧ x.2.size ≤ 1048576) (h : Rd w 2 fwEnc A l) :
    Calls Try.prog 35 #[.slice A n cap] w fun e w' => FwLRes w w' (directOf l) e := by
  have Hl := Lib.hid hl
  have Hr := Lib.hid h
  have Hs := Lib.hid hs
  clear h hs hl
  have H1 : Hid (Pool w ((w.alloc (Obj.cells #[] 9)).alloc (Obj.cells #[] 52)) [ownP 9 1 strEnc (.slice (some ⟨w.heap.size, 0, none⟩) 0 0) [], ownP 52 2 fwEnc (.slice (some ⟨w.heap.size + 1, 0, none⟩) 0 0) []]) :=
    (((Pool.nil_ w).addOwn ((Below.refl _ _).alloc (Nat.le_refl _) _) (Own.lit0 w 9 1 strEnc)).addOwn ((Below.refl _ _).alloc (Nat.le_refl _) _) (l := ([] : List Fw)) (v := .slice (some ⟨w.heap.size + 1, 0, none⟩) 0 0) (by have := Own.lit0 (w.alloc (Obj.cells #[] 9)) 52 2 fwEnc; simpa using this)).perm (List.Perm.swap _ _ _)
  cases hv : fwsOk l
  · have Hn : Hid (directOf l = []) := by show _ = _; unfold directOf; rw [hv]; rfl
    have Hv := Lib.hid hv
    clear hv
    by_cases h0 : 0 < n
    all_goals
      go_enter Try.func35, Try.ntmps35
      go_wp2
      go_loopw [3, 5] (fun o i wr => o = .slice (some ⟨w.heap.size, 0, none⟩) 0 0 ∧ i = .int .i64 0 ∧ wr = (w.alloc (Obj.cells #[] 9)).alloc (Obj.cells #[] 52)) (fun _ _ _ => 0)
      case atStart => exact ⟨rfl, rfl, rfl⟩
      case round =>
        obtain ⟨rfl, rfl, rfl⟩ := hrel
        first
          | (go_wp2_with fail
             refine (specForwardsValid _ l _ _ Hl.out _ (by omega) Hs.out (Hr.out.below H1.out.below)).mono ?_
             rw [Hv.out]
             rintro e w1 ⟨rfl, rfl⟩)
          | skip
        go_wp2
        go_loopw [4, 6] (fun o i wr => o = .slice (some ⟨w.heap.size + 1, 0, none⟩) 0 0 ∧ i = .int .i64 0 ∧ wr = (w.alloc (Obj.cells #[] 9)).alloc (Obj.cells #[] 52)) (fun _ _ _ => 0)
        case atStart => exact ⟨rfl, rfl, rfl⟩
        case round =>
          obtain ⟨rfl, rfl, rfl⟩ := hrel
          go_wp2
          go_ret
          exact ⟨_, 0, 0, rfl, by rw [Hn.out]; exact H1.out.res 1 rfl, H1.out.below⟩
  · have Hn : Hid (directOf l = dirList l (insAll (l.map (·.1)))) := by show _ = _; unfold directOf; rw [hv, insAll_sort]; rfl
    have Hv := Lib.hid hv
    clear hv
    go_enter Try.func35, Try.ntmps35
    go_wp2
    go_loopw [3, 5] (fun o i wr => ∃ (k : Nat) (B : Option Addr) (b : Nat), k ≤ n ∧ i = .int .i64 k ∧ o = .slice B k b ∧ Hid (Pool w wr [ownP 9 1 strEnc (.slice B k b) (insAll ((l.take k).map (·.1))), ownP 52 2 fwEnc (.slice (some ⟨w.heap.size + 1, 0, none⟩) 0 0) []])) (fun _ i _ => n - (intOf i).toNat)
    case atStart => exact ⟨0, _, 0, Nat.zero_le _, rfl, rfl, by rw [List.take_zero]; exact H1.out⟩
    case round =>
      clear H1
      obtain ⟨k, B, b, hk, rfl, rfl, H⟩ := hrel
      by_cases hlt : k < n
      · obtain ⟨x, hx⟩ : ∃ x, l[k]? = some x := ⟨_, List.getElem?_eq_getElem (by have := Hl.out; omega)⟩
        obtain ⟨ad, rfl, hab, c0, c1⟩ := (Hr.out.below H.out.below).two hx rfl
        have Hy : Hid (insAll ((l.take (k + 1)).map (·.1)) = insS (insAll ((l.take k).map (·.1))) x.1) := by
          show _ = _
          rw [List.take_add_one, hx, List.map_append, ← insAll_push]
          rfl
        clear hx
        go_wp2_with fail
        refine (specForwardsValid _ l _ _ Hl.out _ (by omega) Hs.out (Hr.out.below H.out.below)).mono ?_
        rw [Hv.out]
        rintro e w1 ⟨rfl, rfl⟩
        go_wp2_with fail
        refine (specInsert _ _ _ _ _ (H.out.own 0 rfl).len _ (by omega) ((H.out.own 0 rfl).rd strEnc_len)).mono ?_
        rintro e w2 ⟨B2, b2, rfl, ho2, hb2⟩
        have H2 := Lib.hid ((H.out.addOwn hb2 ho2).drop 1)
        clear ho2 hb2
        go_wp2
        go_roundw
        case rel => exact ⟨k + 1, B2, b2, by omega, by go_num, rfl, by rw [Hy.out]; exact H2.out⟩
        case measure => simp [intOf]; omega
      · obtain rfl : k = n := by omega
        have Ht : Hid (insAll ((l.take k).map (·.1)) = insAll (l.map (·.1))) := by show _ = _; rw [List.take_of_length_le (by rw [Hl.out]; exact Nat.le_refl _)]
        have H := H.out
        rw [Ht.out] at H
        have H0 := Lib.hid H
        have hlen := (H.own 0 rfl).len
        have Hlen := Lib.hid hlen
        clear H hlen
        obtain ⟨cs, hcs⟩ : ∃ cs, insAll (l.map (·.1)) = cs := ⟨_, rfl⟩
        rw [hcs] at Hn H0 Hlen
        clear hcs
        go_wp2
        go_loopw [4, 6] (fun o i wr => ∃ (j m : Nat) (D : Option Addr) (d : Nat), j ≤ k ∧ m ≤ j ∧ i = .int .i64 j ∧ o = .slice D m d ∧ Hid (Pool w wr [ownP 9 1 strEnc (.slice B k b) cs, ownP 52 2 fwEnc (.slice D m d) (dirList l (cs.take j))])) (fun _ i _ => k - (intOf i).toNat)
        case atStart => exact ⟨0, 0, _, 0, Nat.zero_le _, Nat.le_refl _, rfl, rfl, by rw [List.take_zero]; exact H0.out⟩
        case round =>
          clear H0
          obtain ⟨j, m, D, d, hj, hm, rfl, rfl, H⟩ := hrel
          by_cases hlt : j < k
          · obtain ⟨c, hc⟩ : ∃ c, cs[j]? = some c := ⟨_, List.getElem?_eq_getElem (by have := Hlen.out; omega)⟩
            obtain ⟨ad, rfl, hab, c0⟩ := ((H.out.own 0 rfl).rd strEnc_len).one hc rfl
            cases hf : follow l c with
            | none =>
              have Hf := Lib.hid hf
              have Hy := Lib.hid (dirList_no hc hf)
              clear hc hf
              go_wp2_with fail
              refine (specFollow _ l _ _ Hl.out _ _ (by omega) (Hr.out.below H.out.below)).mono ?_
              rw [Hf.out, show resVal none = .tuple #[.string ByteArray.empty, .int .i64 0, .bool false] from rfl]
              rintro e w2 ⟨rfl, rfl⟩
              go_wp2
              go_roundw
              case rel => exact ⟨j + 1, m, D, d, by omega, by omega, by go_num, rfl, by rw [Hy.out]; exact H.out⟩
              case measure => simp [intOf]; omega
            | some r =>
              obtain ⟨t, q⟩ := r
              have Hf := Lib.hid hf
              have Hy := Lib.hid (dirList_yes hc hf)
              clear hc hf
              go_wp2_with fail
              refine (specFollow _ l _ _ Hl.out _ _ (by omega) (Hr.out.below H.out.below)).mono ?_
              rw [Hf.out, show resVal (some (t, q)) = .tuple #[.string t, .int .i64 q, .bool true] from rfl]
              rintro e w2 ⟨rfl, rfl⟩
              go_wp2_with (at_builtin; refine st_append1 (.tmp 46) (.tmp 53) 25 52 fw_info Try.underlying25 rfl (by decide) rfl rfl ((c, t) : Fw) rfl (H.out.own 1 rfl).len ((H.out.alloc _).own 1 rfl) rfl fwEnc_len (fwEnc_cells (c, t) rfl) (fwEnc_one _) (by omega) (by omega) (Nat.zero_le _) ?_; intro rg rc rw ro rh rat)
              have H5 := Lib.hid ((H.out.alloc (Obj.cells #[.string c, .string t] 52)).append 1 rfl ro rh (fun q e => by injection e with e; subst e; exact rat))
              clear ro rh rat
              go_roundw
              case rel => exact ⟨j + 1, m + 1, _, rc, by omega, by omega, by go_num, rfl, by rw [Hy.out]; exact H5.out⟩
              case measure => simp [intOf]; omega
          · obtain rfl : j = k := by omega
            have Ht2 : Hid (dirList l (cs.take j) = dirList l cs) := by show _ = _; rw [List.take_of_length_le (by have := Hlen.out; omega)]
            have ho := H.out.res 1 rfl
            rw [Ht2.out] at ho
            have Ho := Lib.hid ho
            clear ho
            go_wp2
            go_ret
            exact ⟨D, m, d, rfl, by rw [Hn.out]; exact Ho.out, H.out.below⟩
end Go.Proofs.Ytdpmjohfjpohjaa
