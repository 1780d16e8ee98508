/-
  The text of orders: the program's and the reference's.
-/
import Derived.Test.YtjibjoapbjojlaaDoorFmM
import Derived.Test.YtjibjoapbjojlaaDoorFwC
import Derived.Test.YtjibjoapbjojlaaDoorFwL
import Derived.Test.YtjibjoapbjojlaaDoorPlL
import Derived.Test.YtjibjoapbjojlaaDoorPool
import Derived.Test.YtjibjoapbjojlaaDoorShelf
import Derived.Shelf.Strings.OnBuilder
namespace Go.Proofs.YtjibjoapbjojlaaDoor
open Go.RowKit

theorem fwPiece_size {x : Fw} (h1 : codeOk x.1 = true) (h2 : codeOk x.2 = true) : (fwPiece x).size = 15 := by
  unfold fwPiece
  rw [ByteArray.size_append, ByteArray.size_append, codeOk_size h1, codeOk_size h2]; rfl
theorem fws_codes {l : List Fw} (h : fwsOk l = true) {x : Fw} (hx : x ∈ l) : codeOk x.1 = true ∧ codeOk x.2 = true := by
  obtain ⟨i, hi, rfl⟩ := List.getElem_of_mem hx
  have := ((fwsOk_iff l).1 h).2 i hi
  rw [fwOkAt_eq (List.getElem?_eq_getElem hi)] at this
  simp only [Bool.and_eq_true] at this
  exact this.1

set_option maxHeartbeats 2000000 in
set_option maxRecDepth 100000 in
theorem implFormat (A : Option Addr) (l : List Fw) (n cap : Nat) (hl : n = l.length) (hcap : n ≤ cap) (w : World) (hn : n ≤ 1048576) (hs : ∀ x ∈ l, x.1.size ≤ 1048576 ∧ x.2.size ≤ 1048576) (h : Rd w 2 fwEnc A l) :
    Calls Tryd.prog 27 #[.slice A n cap] w fun e w' => e = .returned (.string (fmtOf l)) ∧ Below w.heap.size w w' := by
  have Hl := Lib.hid hl
  have Hr := Lib.hid h
  have Hs := Lib.hid hs
  clear h hs hl
  obtain ⟨i0, hi, hz0, hz1, hz2⟩ := info_parts str_info
  cases hv : fwsOk l
  · have Hn : Hid (fmtOf l = ByteArray.empty) := by show _ = _; unfold fmtOf; rw [hv]; rfl
    go_enter Tryd.func27, Tryd.ntmps27
    go_wp2_with fail
    refine (implForwardsValid _ l _ _ Hl.out hcap _ (by omega) Hs.out Hr.out).mono ?_
    rw [hv]
    rintro e w1 ⟨rfl, hb1⟩
    go_wp2
    go_ret
    exact ⟨by rw [Hn.out]; rfl, hb1⟩
  · by_cases h0 : n = 0
    · subst h0
      have Hn : Hid (fmtOf l = cDash) := by show _ = _; unfold fmtOf; rw [hv, List.eq_nil_of_length_eq_zero Hl.out.symm]; rfl
      go_enter Tryd.func27, Tryd.ntmps27
      go_wp2_with fail
      refine (implForwardsValid _ l _ _ Hl.out hcap _ (by omega) Hs.out Hr.out).mono ?_
      rw [hv]
      rintro e w1 ⟨rfl, hb1⟩
      go_wp2
      go_ret
      exact ⟨by rw [Hn.out]; rfl, hb1⟩
    · have hne : l ≠ [] := by rintro rfl; exact h0 Hl.out
      have Hn : Hid (fmtOf l = joinL (l.map fwPiece)) := by show _ = _; unfold fmtOf; rw [hv, if_pos rfl, if_neg hne]
      have Hv := Lib.hid hv
      have h0' : ((n : Int) == 0) = false := by simp; omega
      have hn30 : n ≤ 30 := by rw [Hl.out]; exact ((fwsOk_iff l).1 hv).1
      go_enter Tryd.func27, Tryd.ntmps27
      go_wp2_with fail
      refine (implForwardsValid _ l _ _ Hl.out hcap _ (by omega) Hs.out Hr.out).mono ?_
      rw [hv]
      rintro e w1 ⟨rfl, hb1⟩
      have HB1 := Lib.hid hb1
      clear hb1 hv hne
      go_wp2_with (at_make; refine wpList_make_full _ rfl _ _ 34 rfl w1.heap.size 9 i0 _ 1 Tryd.underlying34 hi hz0 hz1 .i64 .i64 _ _ n rfl rfl rfl rfl (by rw [hz2]; omega) (by unfold maxLen; omega) (Nat.le_refl _) ?_; intro w2 hown2 hg2)
      have H1 : Hid (Pool w w2 [ownP 9 1 strEnc (.slice (some ⟨w1.heap.size, 0, none⟩) n n) (List.replicate n ByteArray.empty)]) := (Pool.of_below HB1.out).addOwn (grown_below hg2 (fun _ e => by cases e)) (by
        unfold Own
        rw [List.length_replicate, flat_replicate, show strEnc ByteArray.empty = [.string ByteArray.empty] from rfl, ← made1 (.string ByteArray.empty) n]
        exact hown2)
      clear hown2 hg2
      go_wp2_with fail
      go_loopw [17] (fun i wr => ∃ k : Nat, k ≤ n ∧ i = .int .i64 k ∧ Hid (Pool w wr [ownP 9 1 strEnc (.slice (some ⟨w1.heap.size, 0, none⟩) n n) ((l.map fwPiece).take k ++ List.replicate (n - k) ByteArray.empty)])) (fun i _ => n - (intOf i).toNat)
      case atStart => exact ⟨0, Nat.zero_le _, rfl, by rw [List.take_zero, List.nil_append, Nat.sub_zero]; exact H1.out⟩
      case round =>
        clear H1
        obtain ⟨k, hk, rfl, H⟩ := hrel
        by_cases hlt : k < n
        · obtain ⟨x, hx⟩ : ∃ x, l[k]? = some x := ⟨_, List.getElem?_eq_getElem (by have := Hl.out; omega)⟩
          have hsx := Hs.out x (List.mem_of_getElem? hx)
          obtain ⟨ad, rfl, hab, c0, c1⟩ := (Hr.out.below H.out.below).two hx rfl
          have hp : (l.map fwPiece)[k]? = some (fwPiece x) := by rw [List.getElem?_map, hx]; rfl
          have hml : (l.map fwPiece).length = n := by rw [List.length_map]; exact Hl.out.symm
          have hz : ((l.map fwPiece).take k ++ List.replicate (n - k) ByteArray.empty)[k]? = some ByteArray.empty := by
            rw [List.getElem?_append_right (by rw [List.length_take]; omega), List.getElem?_replicate, if_pos (by rw [List.length_take]; omega)]
          have Hset : Hid (((l.map fwPiece).take k ++ List.replicate (n - k) ByteArray.empty).set k (fwPiece x) = (l.map fwPiece).take (k + 1) ++ List.replicate (n - (k + 1)) ByteArray.empty) := by
            show _ = _
            have := take_set_rep (z := ByteArray.empty) hp
            rw [hml] at this
            exact this
          have H2 := Lib.hid (H.out.alloc (Obj.cells #[.string x.1, .string x.2] 79))
          have ho := H2.out.own 0 rfl
          have Hlen := Lib.hid ho.len
          obtain ⟨q0, q1⟩ := ho.cell2 strEnc_len ho.len hz (j := 0) (by omega)
          rw [show (strEnc ByteArray.empty)[0]? = some (.string ByteArray.empty) from rfl] at q0
          simp only [Nat.add_zero, Nat.mul_one] at q0 q1
          have Hpc : Hid (fwPiece x = x.1 ++ (⟨#[62]⟩ : Str) ++ x.2) := rfl
          clear hx hp hml hz ho
          go_wp2
          go_roundw
          case rel =>
            refine ⟨k + 1, by omega, by go_num, ?_⟩
            have := (H2.out.own 0 rfl).set1 strEnc_len Hlen.out hlt (y := fwPiece x) rfl
            rw [Hset.out, Hpc.out] at this
            exact H2.out.turnOwn 0 rfl this (grown_setCell (World.grownBy.refl _ _) (.inl rfl) _)
          case measure => simp [intOf]; omega
        · obtain rfl : k = n := by omega
          have ho := H.out.own 0 rfl
          have hml : (l.map fwPiece).length = k := by rw [List.length_map]; exact Hl.out.symm
          rw [Nat.sub_self, List.replicate_zero, List.append_nil, List.take_of_length_le (Nat.le_of_eq hml)] at ho
          have hj := Tryd.strings_Join w1.heap.size 0 k (l.map fwPiece) cSp wr (fun j x hx => by
            have := (ho.cell2 strEnc_len ho.len hx (j := 0) (by omega)).1
            rw [Nat.zero_add]
            simpa [strEnc] using this) ((ho.lt w1.heap.size rfl).2) (by omega) (by omega) (by
            have h1 := joinL_size_le (l.map fwPiece) 15 (fun y hy => by
              obtain ⟨x, hx, rfl⟩ := List.mem_map.1 hy
              have := fws_codes Hv.out hx
              rw [fwPiece_size this.1 this.2]; omega)
            have h2 := joinL_data (l.map fwPiece)
            rw [show cSp.data.toList = [32] from rfl, ← h2]
            have h3 : (joinL (l.map fwPiece)).data.toList.length = (joinL (l.map fwPiece)).size := rfl
            rw [h3]; omega)
          rw [hml, show (⟨(Lib.join ((l.map fwPiece).map (·.data.toList)) cSp.data.toList).toArray⟩ : ByteArray) = joinL (l.map fwPiece) from rfl, ← Hn.out] at hj
          change Calls Tryd.prog 45 _ _ _ at hj
          have HJ := Lib.hid hj
          clear hj ho hml
          go_wp2_with fail
          refine HJ.out.mono ?_
          rintro e w3 ⟨rfl, hb⟩
          have HB := Lib.hid (below_step H.out.below hb)
          clear hb
          go_wp2
          go_ret
          exact ⟨rfl, HB.out⟩

set_option maxHeartbeats 2000000 in
set_option maxRecDepth 100000 in
theorem specFormat (A : Option Addr) (l : List Fw) (n cap : Nat) (hl : n = l.length) (w : World) (hn : n ≤ 1048576) (hs : ∀ x ∈ l, x.1.size ≤ 1048576 ∧ x.2.size ≤ 1048576) (h : Rd w 2 fwEnc A l) :
    Calls Tryd.prog 28 #[.slice A n cap] w fun e w' => e = .returned (.string (fmtOf l)) ∧ Below w.heap.size w w' := by
  have Hl := Lib.hid hl
  have Hr := Lib.hid h
  have Hs := Lib.hid hs
  clear h hs hl
  cases hv : fwsOk l
  · have Hn : Hid (fmtOf l = ByteArray.empty) := by show _ = _; unfold fmtOf; rw [hv]; rfl
    go_enter Tryd.func28, Tryd.ntmps28
    go_wp2_with fail
    refine (specForwardsValid _ l _ _ Hl.out _ (by omega) Hs.out Hr.out).mono ?_
    rw [hv]
    rintro e w1 ⟨rfl, rfl⟩
    go_wp2
    go_ret
    exact ⟨by rw [Hn.out]; rfl, Below.refl _ _⟩
  · have Hn : Hid (fmtOf l = if (joinL (l.map fwPiece)).size = 0 then cDash else joinL (l.map fwPiece)) := by
      show _ = _
      unfold fmtOf
      rw [hv, if_pos rfl]
      by_cases h0 : l = []
      · subst h0; rw [if_pos rfl, List.map_nil, joinL_nil]; rfl
      · rw [if_neg h0, if_neg]
        intro h2
        obtain ⟨x, r, rfl⟩ := List.exists_cons_of_ne_nil h0
        have h3 := joinL_data ((x :: r).map fwPiece)
        rw [List.map_cons, List.map_cons, Lib.join_cons] at h3
        have h4 : (joinL ((x :: r).map fwPiece)).data.toList.length = 0 := h2
        rw [List.map_cons] at h4
        rw [h3, List.length_append] at h4
        have h5 := fwPiece_size (fws_codes hv (List.mem_cons_self)).1 (fws_codes hv (List.mem_cons_self)).2
        have h6 : (fwPiece x).data.toList.length = 15 := h5
        omega
    have Hv := Lib.hid hv
    have hn30 : n ≤ 30 := by rw [Hl.out]; exact ((fwsOk_iff l).1 hv).1
    go_enter Tryd.func28, Tryd.ntmps28
    go_wp2_with fail
    refine (specForwardsValid _ l _ _ Hl.out _ (by omega) Hs.out Hr.out).mono ?_
    rw [hv]
    rintro e w1 ⟨rfl, rfl⟩
    clear hv
    go_wp2
    go_loopw [3, 4] (fun o i wr => ∃ (k : Nat) (out : Str), k ≤ n ∧ i = .int .i64 k ∧ o = .string out ∧ out.size ≤ 16 * k ∧ Hid (out = joinL ((l.map fwPiece).take k)) ∧ Hid (Below w.heap.size w wr)) (fun _ i _ => n - (intOf i).toNat)
    case atStart => exact ⟨0, ByteArray.empty, Nat.zero_le _, rfl, rfl, Nat.zero_le _, by rw [List.take_zero, joinL_nil]; exact Lib.hid rfl, Below.refl _ _⟩
    case round =>
      obtain ⟨k, out, hk, rfl, rfl, hsz, Hout, H⟩ := hrel
      by_cases hlt : k < n
      · obtain ⟨x, hx⟩ : ∃ x, l[k]? = some x := ⟨_, List.getElem?_eq_getElem (by have := Hl.out; omega)⟩
        have hcx := fws_codes Hv.out (List.mem_of_getElem? hx)
        have hz1 := codeOk_size hcx.1
        have hz2 := codeOk_size hcx.2
        have hps := fwPiece_size hcx.1 hcx.2
        obtain ⟨ad, rfl, hab, c0, c1⟩ := (Hr.out.below H.out).two hx rfl
        have hp : (l.map fwPiece)[k]? = some (fwPiece x) := by rw [List.getElem?_map, hx]; rfl
        have htk : (l.map fwPiece).take (k + 1) = (l.map fwPiece).take k ++ [fwPiece x] := by rw [List.take_add_one, hp]; rfl
        have hlt' : (k : Int) < (n : Int) := by omega
        by_cases hk0 : k = 0
        · subst hk0
          rw [show ad.add (0 * 2) = ad from by cases ad; rfl] at c0 c1
          have Hnext : Hid (out ++ x.1 ++ (⟨#[62]⟩ : Str) ++ x.2 = joinL ((l.map fwPiece).take (0 + 1)) ∧ (out ++ x.1 ++ (⟨#[62]⟩ : Str) ++ x.2).size ≤ 16 * (0 + 1)) := by
            have e0 : out = ByteArray.empty := by have := Hout.out; rw [List.take_zero, joinL_nil] at this; exact this
            have e1 : out ++ x.1 ++ (⟨#[62]⟩ : Str) ++ x.2 = fwPiece x := by
              subst e0
              refine str_eq' ?_
              unfold fwPiece cGt
              simp
            show _ ∧ _
            rw [e1, htk, List.take_zero, List.nil_append, joinL_one, hps]
            exact ⟨rfl, by omega⟩
          clear hcx hps hx hp htk
          go_wp2_with fail
          go_quiet (fail)
          go_wp2
          go_roundw
          case rel => exact ⟨0 + 1, _, by omega, by go_num, rfl, Hnext.out.2, Hnext.out.1, below_drewN H.out _⟩
          case measure => simp [intOf]; omega
        · have b0 : 0 < k := by omega
          have b0' : (0 : Int) < (k : Int) := by omega
          have Hnext : Hid (out ++ (⟨#[32]⟩ : Str) ++ x.1 ++ (⟨#[62]⟩ : Str) ++ x.2 = joinL ((l.map fwPiece).take (k + 1)) ∧ (out ++ (⟨#[32]⟩ : Str) ++ x.1 ++ (⟨#[62]⟩ : Str) ++ x.2).size ≤ 16 * (k + 1)) := by
            have e1 : out ++ (⟨#[32]⟩ : Str) ++ x.1 ++ (⟨#[62]⟩ : Str) ++ x.2 = joinL ((l.map fwPiece).take (k + 1)) := by
              rw [htk, joinL_push _ (by intro e; have := congrArg List.length e; rw [List.length_take, List.length_map, ← Hl.out] at this; have t : min k n = 0 := this; omega), ← Hout.out]
              refine str_eq' ?_
              unfold fwPiece cGt cSp
              simp [List.append_assoc]
            show _ ∧ _
            refine ⟨e1, ?_⟩
            rw [ByteArray.size_append, ByteArray.size_append, ByteArray.size_append, ByteArray.size_append, hz1, hz2, show (⟨#[32]⟩ : Str).size = 1 from rfl, show (⟨#[62]⟩ : Str).size = 1 from rfl]
            omega
          clear hcx hps hx hp htk
          go_wp2_with fail
          go_quiet (fail)
          go_wp2
          go_roundw
          case rel => exact ⟨k + 1, _, by omega, by go_num, rfl, Hnext.out.2, Hnext.out.1, below_drewN H.out _⟩
          case measure => simp [intOf]; omega
      · obtain rfl : k = n := by omega
        have e1 : out = joinL (l.map fwPiece) := by have := Hout.out; rw [List.take_of_length_le (by rw [List.length_map, ← Hl.out]; exact Nat.le_refl _)] at this; exact this
        rw [← e1] at Hn
        clear e1 Hout
        have KD : Hid (∀ w2, Calls Tryd.prog 48 #[.string out] w2 fun e w' => e = .returned (.string (fmtOf l)) ∧ w2 = w') := fun w2 => by
          by_cases hz : out.size = 0
          · have e2 : out = ByteArray.empty := str_eq' (by
              have : out.data.toList.length = 0 := hz
              rw [List.eq_nil_of_length_eq_zero this]; rfl)
            have e3 : fmtOf l = cDash := by rw [Hn.out, if_pos hz]
            rw [e3, e2]
            have hq := str_t (a := (⟨#[]⟩ : Str)) rfl
            go_enter Tryd.func48, Tryd.ntmps48
            go_wp2
            go_ret
            exact ⟨rfl, rfl⟩
          · have hq : (ByteArray.toList out).isEmpty = false := by
              have := str_f (a := out) (b := (⟨#[]⟩ : Str)) (by rintro rfl; exact hz rfl)
              simpa using this
            have e3 : fmtOf l = out := by rw [Hn.out, if_neg hz]
            rw [e3]
            clear hz
            go_enter Tryd.func48, Tryd.ntmps48
            go_wp2
            go_ret
            exact ⟨rfl, rfl⟩
        go_wp2_with fail
        refine (KD.out _).mono ?_
        rintro e w2 ⟨rfl, rfl⟩
        go_wp2
        go_ret
        exact ⟨rfl, H.out⟩
end Go.Proofs.YtjibjoapbjojlaaDoor
