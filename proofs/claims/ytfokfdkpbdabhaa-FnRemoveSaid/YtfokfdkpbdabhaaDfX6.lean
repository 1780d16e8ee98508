/-
  The law on orders removed and added again. (Written by gen_dr.py.)
-/
import Derived.Test.YtfokfdkpbdabhaaDfV
namespace Go.Proofs.Ytfokfdkpbdabhaa
open Go.RowKit

set_option maxHeartbeats 8000000 in
set_option maxRecDepth 100000 in
theorem walkFnRemove (A : Option Addr) (bs : List UInt8) (c : Nat) (w : World) (h : ByIn w A bs c) :
    Calls Try.prog 12 #[.slice A bs.length c] w fun e w' => e = .returned (.bool true) ∧ Below w.heap.size w w' := by
  obtain ⟨hlc, hcm, hr⟩ := h
  have Hr := Lib.hid hr
  unfold maxLen at hcm
  clear hr
  by_cases hlen : ¬ (bs.length : Int) ≤ 1048576
  · go_enter Try.func12, Try.ntmps12
    go_wp2
    go_ret
    exact ⟨rfl, Below.refl _ _⟩
  have hlen := Decidable.not_not.1 hlen
  go_enter Try.func12, Try.ntmps12
  go_wp2_with fail
  refine (drawRemoveC A bs _ _ rfl hlc _ (by omega) Hr.out).mono ?_
  rintro e w1 ⟨A1, n, c1, l, s, rfl, ho, hs, hb⟩
  have HO := Lib.hid ho
  have HB := Lib.hid hb
  have hn := ho.len
  have hcap := ho.own.cap_le
  have Hnl := Lib.hid ho.own.len
  clear ho hb
  have hcase : removeOf l s = none ∨ (fwsOk l = true ∧ ∃ k y, fwIdx l s = some k ∧ l[k]? = some y ∧ removeOf l s = some (restOf l s)) := by
    unfold removeOf
    cases hv : fwsOk l
    · exact .inl rfl
    · cases hi : fwIdx l s with
      | none => exact .inl rfl
      | some k =>
        obtain ⟨⟨y, hy, -⟩, -⟩ := fwIdx_some.1 hi
        refine .inr ⟨rfl, k, y, rfl, hy, ?_⟩
        unfold restOf
        rw [hi]
        rfl
  rcases hcase with hrem | ⟨hv, k, y, hi, hy, hrem⟩
  · have Hrem := Lib.hid hrem
    clear hrem
    go_wp2_with fail
    refine (implRemove A1 l n c1 HO.out.own.len hcap s _ (by omega) HO.out.small (HO.out.own.rd fwEnc_len)).mono ?_
    rw [Hrem.out]
    rintro e w2 ⟨Ax, nx, cx, rfl, ho, hb⟩
    have X : Hid (Own w2 w1.heap.size 34 2 fwEnc (.slice Ax nx cx) []) := ho
    clear ho
    have HO := Lib.hid (HO.out.below hb)
    have HB := Lib.hid (below_step HB.out hb)
    clear hb
    go_wp2_with fail
    refine (specRemove A1 l n c1 HO.out.own.len s _ (by omega) HO.out.small (HO.out.own.rd fwEnc_len)).mono ?_
    rw [Hrem.out]
    rintro e w3 ⟨Aw, nw, cw, rfl, ho, hb⟩
    have W : Hid (Own w3 w2.heap.size 34 2 fwEnc (.slice Aw nw cw) []) := ho
    clear ho
    have HO := Lib.hid (HO.out.below hb)
    have X := Lib.hid (X.out.below hb)
    have HB := Lib.hid (below_step HB.out hb)
    clear hb
    have hz : ([] : List Fw).length ≤ 1048576 := Nat.zero_le _
    go_wp2_with fail
    refine (soFwC _ _ [] _ _ _ _ X.out.len W.out.len _ (by have := X.out.len; omega) (X.out.rd fwEnc_len) (W.out.rd fwEnc_len)).mono ?_
    rintro e w4 ⟨rfl, hb⟩
    have X := Lib.hid (X.out.below hb)
    have W := Lib.hid (W.out.below hb)
    have HB := Lib.hid (below_step HB.out hb)
    clear hb
    go_wp2_with fail
    refine (soFwC _ _ [] _ _ _ _ X.out.len W.out.len _ (by have := X.out.len; omega) (X.out.rd fwEnc_len) (W.out.rd fwEnc_len)).mono ?_
    rintro e w5 ⟨rfl, hb⟩
    have HB := Lib.hid (below_step HB.out hb)
    clear hb
    go_wp2
    go_ret
    exact ⟨rfl, HB.out⟩
  have hb0 := back_of hv hi hy
  obtain ⟨⟨y', hy', hyc⟩, -⟩ := fwIdx_some.1 hi
  rw [hy] at hy'
  injection hy' with hy'
  subst hy'
  have hym := HO.out.small y (List.mem_of_getElem? hy)
  have hcs : codeOk s = true ∧ codeOk y.2 = true := by
    have := ((fwsOk_nodup l).1 hv).2.1 y (List.mem_of_getElem? hy)
    rwa [hyc] at this
  have hro := rest_ok (f := s) hv
  have hnone : fwIdx (restOf l s) s = none := dropTo_none hv
  have Hn1 : Hid (nextOf l s = some y.2) := by show nextOf l s = _; unfold nextOf; rw [hv]; exact fwNext_some hi hy
  have Hn2 : Hid (nextOf (restOf l s) s = none) := by show nextOf _ s = _; unfold nextOf; rw [hro]; exact fwNext_none hnone
  have Hr1 : Hid (resolveOf (restOf l s) s = some (s, 0)) := by show resolveOf _ s = _; unfold resolveOf; rw [hro, hcs.1]; exact followN_none hnone (by omega)
  have hres : resolveOf l s = follow l s := by unfold resolveOf; rw [hv, hcs.1]; rfl
  have hadd : addOf (restOf l s) s y.2 = if (follow l s).isSome then some (restOf l s ++ [(s, y.2)]) else none := by
    unfold addOf
    rw [addedOf_back hv, hro, hb0.ok, hb0.follow]
    rfl
  have hlen : (restOf l s).length + 1 = l.length := hb0.len
  have Hsame := Lib.hid (same_back hv hb0)
  have Hbl : Hid ((restOf l s ++ [(s, y.2)]).length = l.length) := by show _ = _; rw [List.length_append, List.length_singleton]; exact hlen
  have Hbs : Hid (∀ x ∈ restOf l s ++ [(s, y.2)], x.1.size ≤ 1048576 ∧ x.2.size ≤ 1048576) := fun x hx => by
    rcases List.mem_append.1 hx with hx | hx
    · exact HO.out.small x (dropTo_mem hx)
    · simp at hx; subst hx; exact ⟨hs, hym.2⟩
  have Hlen := Lib.hid hlen
  have Hrs := Lib.hid (rest_small (f := s) HO.out.small)
  have Hrem := Lib.hid hrem
  obtain ⟨L, hL⟩ : ∃ L, restOf l s = L := ⟨_, rfl⟩
  rw [hL] at Hn2 Hr1 Hrem hadd Hsame Hbl Hbs Hlen Hrs
  have hss : (ByteArray.toList s == ByteArray.toList s) = true := by simp
  clear hb0 hcs hro hnone hlen hrem hv hi hy hyc hL
  cases hR : follow l s with
  | none =>
    have Hres : Hid (resolveOf l s = none) := hres.trans hR
    have Hadd : Hid (addOf L s y.2 = none) := by show _ = _; rw [hadd, hR]; rfl
    clear hres hadd hR
    go_wp2_with fail
    refine (implRemove A1 l n c1 HO.out.own.len hcap s _ (by omega) HO.out.small (HO.out.own.rd fwEnc_len)).mono ?_
    rw [Hrem.out]
    rintro e w2 ⟨Ax, nx, cx, rfl, ho, hb⟩
    have X : Hid (Own w2 w1.heap.size 34 2 fwEnc (.slice Ax nx cx) L) := ho
    clear ho
    have HO := Lib.hid (HO.out.below hb)
    have HB := Lib.hid (below_step HB.out hb)
    clear hb
    go_wp2_with fail
    refine (specRemove A1 l n c1 HO.out.own.len s _ (by omega) HO.out.small (HO.out.own.rd fwEnc_len)).mono ?_
    rw [Hrem.out]
    rintro e w3 ⟨Aw, nw, cw, rfl, ho, hb⟩
    have W : Hid (Own w3 w2.heap.size 34 2 fwEnc (.slice Aw nw cw) L) := ho
    clear ho
    have HO := Lib.hid (HO.out.below hb)
    have X := Lib.hid (X.out.below hb)
    have HB := Lib.hid (below_step HB.out hb)
    clear hb
    have hnx : nx + 1 = n := by have h1 := X.out.len; have h2 := Hlen.out; have h3 := Hnl.out; omega
    go_wp2_with fail
    refine (soFwC _ _ L _ _ _ _ X.out.len W.out.len _ (by have := X.out.len; omega) (X.out.rd fwEnc_len) (W.out.rd fwEnc_len)).mono ?_
    rintro e w4 ⟨rfl, hb⟩
    have HO := Lib.hid (HO.out.below hb)
    have X := Lib.hid (X.out.below hb)
    have HB := Lib.hid (below_step HB.out hb)
    clear hb
    go_wp2_with fail
    refine (implNextCode A1 l n c1 HO.out.own.len hcap s _ (by omega) HO.out.small (HO.out.own.rd fwEnc_len)).mono ?_
    rw [Hn1.out, show nextVal (some y.2) = .tuple #[.string y.2, .bool true] from rfl]
    rintro e w5 ⟨rfl, hb⟩
    have HO := Lib.hid (HO.out.below hb)
    have X := Lib.hid (X.out.below hb)
    have HB := Lib.hid (below_step HB.out hb)
    clear hb
    go_wp2_with fail
    refine (implNextCode Ax L nx cx X.out.len X.out.cap_le s _ (by omega) Hrs.out (X.out.rd fwEnc_len)).mono ?_
    rw [Hn2.out, show nextVal none = .tuple #[.string ByteArray.empty, .bool false] from rfl]
    rintro e w6 ⟨rfl, hb⟩
    have HO := Lib.hid (HO.out.below hb)
    have X := Lib.hid (X.out.below hb)
    have HB := Lib.hid (below_step HB.out hb)
    clear hb
    go_wp2_with fail
    refine (implResolveCode Ax L nx cx X.out.len X.out.cap_le s _ (by omega) hs Hrs.out (X.out.rd fwEnc_len)).mono ?_
    rw [Hr1.out, show resVal (some (s, 0)) = .tuple #[.string s, .int .i64 (0 : Nat), .bool true] from rfl]
    rintro e w7 ⟨rfl, hb⟩
    have HO := Lib.hid (HO.out.below hb)
    have X := Lib.hid (X.out.below hb)
    have HB := Lib.hid (below_step HB.out hb)
    clear hb
    go_wp2_with fail
    refine (implResolveCode A1 l n c1 HO.out.own.len hcap s _ (by omega) hs HO.out.small (HO.out.own.rd fwEnc_len)).mono ?_
    rw [Hres.out, show resVal none = .tuple #[.string ByteArray.empty, .int .i64 0, .bool false] from rfl]
    rintro e w8 ⟨rfl, hb⟩
    have HO := Lib.hid (HO.out.below hb)
    have X := Lib.hid (X.out.below hb)
    have HB := Lib.hid (below_step HB.out hb)
    clear hb
    go_wp2_with fail
    refine (implAdd Ax L nx cx X.out.len X.out.cap_le s y.2 _ (by omega) hs hym.2 Hrs.out (X.out.rd fwEnc_len)).mono ?_
    rw [Hadd.out]
    rintro e w9 ⟨Ab, nb, cb, rfl, -, hb⟩
    have HB := Lib.hid (below_step HB.out hb)
    clear hb
    go_wp2
    go_ret
    exact ⟨rfl, HB.out⟩
  | some r =>
    obtain ⟨e, m⟩ := r
    have Hres : Hid (resolveOf l s = some (e, m)) := hres.trans hR
    have Hadd : Hid (addOf L s y.2 = some (L ++ [(s, y.2)])) := by show _ = _; rw [hadd, hR]; rfl
    clear hres hadd hR
    go_wp2_with fail
    refine (implRemove A1 l n c1 HO.out.own.len hcap s _ (by omega) HO.out.small (HO.out.own.rd fwEnc_len)).mono ?_
    rw [Hrem.out]
    rintro e w2 ⟨Ax, nx, cx, rfl, ho, hb⟩
    have X : Hid (Own w2 w1.heap.size 34 2 fwEnc (.slice Ax nx cx) L) := ho
    clear ho
    have HO := Lib.hid (HO.out.below hb)
    have HB := Lib.hid (below_step HB.out hb)
    clear hb
    go_wp2_with fail
    refine (specRemove A1 l n c1 HO.out.own.len s _ (by omega) HO.out.small (HO.out.own.rd fwEnc_len)).mono ?_
    rw [Hrem.out]
    rintro e w3 ⟨Aw, nw, cw, rfl, ho, hb⟩
    have W : Hid (Own w3 w2.heap.size 34 2 fwEnc (.slice Aw nw cw) L) := ho
    clear ho
    have HO := Lib.hid (HO.out.below hb)
    have X := Lib.hid (X.out.below hb)
    have HB := Lib.hid (below_step HB.out hb)
    clear hb
    have hnx : nx + 1 = n := by have h1 := X.out.len; have h2 := Hlen.out; have h3 := Hnl.out; omega
    go_wp2_with fail
    refine (soFwC _ _ L _ _ _ _ X.out.len W.out.len _ (by have := X.out.len; omega) (X.out.rd fwEnc_len) (W.out.rd fwEnc_len)).mono ?_
    rintro e w4 ⟨rfl, hb⟩
    have HO := Lib.hid (HO.out.below hb)
    have X := Lib.hid (X.out.below hb)
    have HB := Lib.hid (below_step HB.out hb)
    clear hb
    go_wp2_with fail
    refine (implNextCode A1 l n c1 HO.out.own.len hcap s _ (by omega) HO.out.small (HO.out.own.rd fwEnc_len)).mono ?_
    rw [Hn1.out, show nextVal (some y.2) = .tuple #[.string y.2, .bool true] from rfl]
    rintro e w5 ⟨rfl, hb⟩
    have HO := Lib.hid (HO.out.below hb)
    have X := Lib.hid (X.out.below hb)
    have HB := Lib.hid (below_step HB.out hb)
    clear hb
    go_wp2_with fail
    refine (implNextCode Ax L nx cx X.out.len X.out.cap_le s _ (by omega) Hrs.out (X.out.rd fwEnc_len)).mono ?_
    rw [Hn2.out, show nextVal none = .tuple #[.string ByteArray.empty, .bool false] from rfl]
    rintro e w6 ⟨rfl, hb⟩
    have HO := Lib.hid (HO.out.below hb)
    have X := Lib.hid (X.out.below hb)
    have HB := Lib.hid (below_step HB.out hb)
    clear hb
    go_wp2_with fail
    refine (implResolveCode Ax L nx cx X.out.len X.out.cap_le s _ (by omega) hs Hrs.out (X.out.rd fwEnc_len)).mono ?_
    rw [Hr1.out, show resVal (some (s, 0)) = .tuple #[.string s, .int .i64 (0 : Nat), .bool true] from rfl]
    rintro e w7 ⟨rfl, hb⟩
    have HO := Lib.hid (HO.out.below hb)
    have X := Lib.hid (X.out.below hb)
    have HB := Lib.hid (below_step HB.out hb)
    clear hb
    go_wp2_with fail
    refine (implResolveCode A1 l n c1 HO.out.own.len hcap s _ (by omega) hs HO.out.small (HO.out.own.rd fwEnc_len)).mono ?_
    rw [Hres.out, show resVal (some (e, m)) = .tuple #[.string e, .int .i64 (m : Nat), .bool true] from rfl]
    rintro e w8 ⟨rfl, hb⟩
    have HO := Lib.hid (HO.out.below hb)
    have X := Lib.hid (X.out.below hb)
    have HB := Lib.hid (below_step HB.out hb)
    clear hb
    go_wp2_with fail
    refine (implAdd Ax L nx cx X.out.len X.out.cap_le s y.2 _ (by omega) hs hym.2 Hrs.out (X.out.rd fwEnc_len)).mono ?_
    rw [Hadd.out]
    rintro e w9 ⟨Ab, nb, cb, rfl, ho, hb⟩
    have Y : Hid (Own w9 w8.heap.size 34 2 fwEnc (.slice Ab nb cb) (L ++ [(s, y.2)])) := ho
    clear ho
    have Hnb : Hid (nb = n) := by show nb = n; have h1 := Y.out.len; have h2 := Hbl.out; have h3 := Hnl.out; omega
    have HO := Lib.hid (HO.out.below hb)
    have HB := Lib.hid (below_step HB.out hb)
    clear hb
    go_wp2_with fail
    refine (implSame Ab A1 (L ++ [(s, y.2)]) l nb n cb c1 Y.out.len HO.out.own.len Y.out.cap_le hcap _ (by have := Hnb.out; omega) (by omega) (own_nil0 Y.out) (own_nil0 HO.out.own) Hbs.out HO.out.small (Y.out.rd fwEnc_len) (HO.out.own.rd fwEnc_len)).mono ?_
    rw [Hsame.out]
    rintro e w10 ⟨rfl, hb⟩
    have HB := Lib.hid (below_step HB.out hb)
    clear hb
    go_wp2
    go_ret
    exact ⟨rfl, HB.out⟩
end Go.Proofs.Ytfokfdkpbdabhaa
