/-
  Letters sent on by orders: the program's and the reference's.
-/
import Derived.Test.YtbfmohkjnjmmoaaPlHb
import Derived.Test.YtbfmohkjnjmmoaaFwC
import Derived.Test.YtbfmohkjnjmmoaaFwL
import Derived.Test.YtbfmohkjnjmmoaaFwS
import Derived.Test.YtbfmohkjnjmmoaaPoolL
namespace Go.Proofs.Ytbfmohkjnjmmoaa
open Go.RowKit

theorem new2 {w w' : World} {x : Lt} (hb : Below (w.alloc (Obj.cells #[.int .i64 x.1, .string x.2] 42)).heap.size (w.alloc (Obj.cells #[.int .i64 x.1, .string x.2] 42)) w') : w'.cell? ⟨w.heap.size, 0, none⟩ = some (.int .i64 x.1) ∧ w'.cell? ⟨w.heap.size, 1, none⟩ = some (.string x.2) :=
  ⟨below_cell hb (ltEnc_cells x rfl 0 _ rfl), below_cell hb (ltEnc_cells x rfl 1 _ rfl)⟩
theorem Pool.two_apart {w0 w : World} {v v' : Value} {l l' : List Lt} {e e' : TypeId} (h : Pool w0 w [ownP e 2 ltEnc v l, ownP e' 2 ltEnc v' l']) : ∀ g, v.ownBlock = some g → v'.ownBlock = some g → False :=
  fun g k k' => (List.pairwise_cons.1 h.apart).1 (ownP e' 2 ltEnc v' l') (by simp) g (mem_own.2 k) (mem_own.2 k')
def endOf (o : List Fw) (x : Lt) : Str := endS (follow o x.2)
def sentOf (o : List Fw) (m : List Lt) : List Lt := (m.filter fun x => (follow o x.2).isSome).map fun x => (x.1, endOf o x)
def stuckOf (o : List Fw) (m : List Lt) : List Lt := m.filter fun x => !(follow o x.2).isSome
def fbR (o : List Fw) (m : List Lt) : LtR := if fwsOk o && batchOk m then ⟨sentOf o m, stuckOf o m, true⟩ else noLtR
theorem sent_step {o : List Fw} {m : List Lt} {k : Nat} {x : Lt} {v : Bool} (hx : m[k]? = some x) (hv : (follow o x.2).isSome = v) : sentOf o (m.take (k + 1)) = if v then sentOf o (m.take k) ++ [(x.1, endOf o x)] else sentOf o (m.take k) := by
  unfold sentOf
  rw [take_succ_at hx, List.filter_append]
  simp only [List.filter_cons, List.filter_nil, hv]
  cases v <;> simp
theorem stuck_step {o : List Fw} {m : List Lt} {k : Nat} {x : Lt} {v : Bool} (hx : m[k]? = some x) (hv : (follow o x.2).isSome = v) : stuckOf o (m.take (k + 1)) = if v then stuckOf o (m.take k) else stuckOf o (m.take k) ++ [x] := by
  unfold stuckOf
  rw [take_succ_at hx, List.filter_append]
  simp only [List.filter_cons, List.filter_nil, hv]
  cases v <;> simp
theorem sent_len (o : List Fw) (m : List Lt) : (sentOf o m).length ≤ m.length := by
  unfold sentOf
  rw [List.length_map]
  exact List.length_filter_le _ _
theorem stuck_len (o : List Fw) (m : List Lt) : (stuckOf o m).length ≤ m.length := List.length_filter_le _ _
theorem fbR_len {o : List Fw} {m : List Lt} (hm : m.length ≤ 1048576) : (fbR o m).f.length ≤ 1048576 ∧ (fbR o m).k.length ≤ 1048576 := by
  unfold fbR
  split
  · exact ⟨Nat.le_trans (sent_len _ _) hm, Nat.le_trans (stuck_len _ _) hm⟩
  · exact ⟨Nat.zero_le _, Nat.zero_le _⟩

set_option maxHeartbeats 2000000 in
set_option maxRecDepth 100000 in
theorem implForwardBatch (A B : Option Addr) (l : List Fw) (m : List Lt) (n cap k capm : Nat) (hl : n = l.length) (hk : k = m.length) (hcap : n ≤ cap) (hcapm : k ≤ capm) (w : World) (hn : n ≤ 1048576) (hkn : k ≤ 1048576) (hs : ∀ x ∈ l, x.1.size ≤ 1048576 ∧ x.2.size ≤ 1048576) (hsm : ∀ x ∈ m, x.2.size ≤ 1048576) (h : Rd w 2 fwEnc A l) (hm : Rd w 2 ltEnc B m) :
    Calls Try.prog 58 #[.slice A n cap, .slice B k capm] w fun e w' => LtRet2 (fbR l m) w e w' := by
  have Hl := Lib.hid hl
  have Hk := Lib.hid hk
  have Hr := Lib.hid h
  have Hm := Lib.hid hm
  have Hs := Lib.hid hs
  have Hsm := Lib.hid hsm
  clear h hs hl hk hm hsm
  cases hv : fwsOk l
  · have Hd : Hid (fbR l m = noLtR) := by show fbR _ _ = _; unfold fbR; rw [hv]; rfl
    go_enter Try.func58, Try.ntmps58
    go_wp2_with fail
    refine (implForwardsValid _ l _ _ Hl.out hcap _ (by omega) Hs.out Hr.out).mono ?_
    rw [hv]
    rintro e w1 ⟨rfl, hb⟩
    go_wp2
    go_ret3
    rw [Hd.out]
    exact noLt w hb
  · cases hw : batchOk m
    · have Hd : Hid (fbR l m = noLtR) := by show fbR _ _ = _; unfold fbR; rw [hv, hw]; rfl
      go_enter Try.func58, Try.ntmps58
      go_wp2_with fail
      refine (implForwardsValid _ l _ _ Hl.out hcap _ (by omega) Hs.out Hr.out).mono ?_
      rw [hv]
      rintro e w1 ⟨rfl, hb1⟩
      go_wp2_with fail
      refine (implBatchValid B m _ _ Hk.out hcapm _ (by omega) Hsm.out (Hm.out.below hb1)).mono ?_
      rw [hw]
      rintro e w2 ⟨rfl, hb⟩
      have hb := below_step hb1 hb
      go_wp2
      go_ret3
      rw [Hd.out]
      exact noLt w hb
    · have Hd : Hid (fbR l m = ⟨sentOf l m, stuckOf l m, true⟩) := by show fbR _ _ = _; unfold fbR; rw [hv, hw]; rfl
      go_enter Try.func58, Try.ntmps58
      go_wp2_with fail
      refine (implForwardsValid _ l _ _ Hl.out hcap _ (by omega) Hs.out Hr.out).mono ?_
      rw [hv]
      rintro e w1 ⟨rfl, hb1⟩
      go_wp2_with fail
      refine (implBatchValid B m _ _ Hk.out hcapm _ (by omega) Hsm.out (Hm.out.below hb1)).mono ?_
      rw [hw]
      rintro e w2 ⟨rfl, hb⟩
      have hb := below_step hb1 hb
      have H : Hid (Pool w w2 [ownP 42 2 ltEnc (.slice none 0 0) (sentOf l (m.take 0)), ownP 42 2 ltEnc (.slice none 0 0) (stuckOf l (m.take 0))]) := ((Pool.of_below hb).add (Below.refl _ _) (ownP 42 2 ltEnc (.slice none 0 0) []) (Own.nil_ _ _ _ _ _) (fun k hk => by simp [ownP, Value.ownBlock] at hk)).add (Below.refl _ _) (ownP 42 2 ltEnc (.slice none 0 0) []) (Own.nil_ _ _ _ _ _) (fun k hk => by simp [ownP, Value.ownBlock] at hk)
      clear hb hb1 hv hw
      go_wp2_with fail
      go_loopw [24, 7, 8] (fun i f t wr => ∃ j : Nat, j ≤ k ∧ i = .int .i64 j ∧ ∃ A1 n1 c1 A2 n2 c2, f = .slice A1 n1 c1 ∧ t = .slice A2 n2 c2 ∧ n1 ≤ j ∧ n2 ≤ j ∧ Hid (Pool w wr [ownP 42 2 ltEnc (.slice A1 n1 c1) (sentOf l (m.take j)), ownP 42 2 ltEnc (.slice A2 n2 c2) (stuckOf l (m.take j))])) (fun i _ _ _ => k - (intOf i).toNat)
      case atStart => exact ⟨0, Nat.zero_le _, rfl, none, 0, 0, none, 0, 0, rfl, rfl, Nat.le_refl _, Nat.le_refl _, H⟩
      case round =>
        clear H
        obtain ⟨j, hj, rfl, A1, n1, c1, A2, n2, c2, rfl, rfl, hn1, hn2, H⟩ := hrel
        by_cases hlt : j < k
        · obtain ⟨x, hx⟩ : ∃ x, m[j]? = some x := ⟨_, List.getElem?_eq_getElem (by have := Hk.out; omega)⟩
          obtain ⟨ad, rfl, hab, d0, d1⟩ := (Hm.out.below H.out.below).two hx rfl
          have H2 : Hid (Pool w (wr.alloc (Obj.cells #[.int .i64 x.1, .string x.2] 42)) [ownP 42 2 ltEnc (.slice A1 n1 c1) (sentOf l (m.take j)), ownP 42 2 ltEnc (.slice A2 n2 c2) (stuckOf l (m.take j))]) := H.out.alloc _
          cases hv : (follow l x.2).isSome
          · have F1 : Hid (sentOf l (m.take (j + 1)) = sentOf l (m.take j)) := by show _ = _; rw [sent_step hx hv]; rfl
            have F2 : Hid (stuckOf l (m.take (j + 1)) = stuckOf l (m.take j) ++ [x]) := by show _ = _; rw [stuck_step hx hv]; rfl
            have Hv : Hid (resVal (follow l x.2) = .tuple #[.string (endOf l x), .int .i64 (endN (follow l x.2) : Nat), .bool false]) := by show _ = _; rw [resVal_eq, hv]; rfl
            clear hv
            go_wp2_with fail
            refine (implFollow _ l _ _ Hl.out x.2 _ (by omega) (Hr.out.below H2.out.below)).mono ?_
            rw [Hv.out]
            rintro e w3 ⟨rfl, hb3⟩
            obtain ⟨e0, e1⟩ := new2 hb3
            have H3 := Lib.hid (H2.out.step hb3)
            clear hb3
            go_wp2_with (at_builtin; refine wpList_append1L (.tmp 44) (.tmp 46) 40 42 lt_info Try.underlying40 rfl (by decide) rfl rfl x rfl (H3.out.own 1 rfl).len ((H3.out.own 1 rfl).alloc _) rfl ltEnc_len (ltEnc_cells x rfl) (ltEnc_one _) (by omega) (by omega) (Nat.zero_le _) ?_; intro g3 c3 w4 ho3 hg3 hat3)
            have H4 := Lib.hid ((H3.out.alloc _).append 1 rfl ho3 hg3 (fun k e => by injection e with e; subst e; exact hat3))
            go_roundw
            case rel => exact ⟨j + 1, by omega, by go_num, A1, n1, c1, _, _, _, rfl, rfl, by omega, by omega, by rw [F1.out, F2.out]; exact H4.out⟩
            case measure => simp [intOf]; omega
          · have F1 : Hid (sentOf l (m.take (j + 1)) = sentOf l (m.take j) ++ [(x.1, endOf l x)]) := by show _ = _; rw [sent_step hx hv]; rfl
            have F2 : Hid (stuckOf l (m.take (j + 1)) = stuckOf l (m.take j)) := by show _ = _; rw [stuck_step hx hv]; rfl
            have Hv : Hid (resVal (follow l x.2) = .tuple #[.string (endOf l x), .int .i64 (endN (follow l x.2) : Nat), .bool true]) := by show _ = _; rw [resVal_eq, hv]; rfl
            clear hv
            go_wp2_with fail
            refine (implFollow _ l _ _ Hl.out x.2 _ (by omega) (Hr.out.below H2.out.below)).mono ?_
            rw [Hv.out]
            rintro e w3 ⟨rfl, hb3⟩
            obtain ⟨e0, e1⟩ := new2 hb3
            have H3 := Lib.hid (H2.out.step hb3)
            clear hb3
            go_wp2_with (at_builtin; refine wpList_append1L (.tmp 37) (.tmp 42) 40 42 lt_info Try.underlying40 rfl (by decide) rfl rfl (x.1, endOf l x) rfl (H3.out.own 0 rfl).len ((H3.out.own 0 rfl).alloc _) rfl ltEnc_len (ltEnc_cells (x.1, endOf l x) rfl) (ltEnc_one _) (by omega) (by omega) (Nat.zero_le _) ?_; intro g3 c3 w4 ho3 hg3 hat3)
            have H4 := Lib.hid ((H3.out.alloc _).append 0 rfl ho3 hg3 (fun k e => by injection e with e; subst e; exact hat3))
            go_roundw
            case rel => exact ⟨j + 1, by omega, by go_num, _, _, _, A2, n2, c2, rfl, rfl, by omega, by omega, by rw [F1.out, F2.out]; exact H4.out⟩
            case measure => simp [intOf]; omega
        · obtain rfl : j = k := by omega
          go_wp2
          go_ret3
          rw [Hd.out]
          have ht := List.take_of_length_le (l := m) (i := j) (by rw [Hk.out]; exact Nat.le_refl _)
          rw [ht] at H
          exact ⟨A1, n1, c1, A2, n2, c2, rfl, H.out.res 0 rfl, H.out.res 1 rfl, fun g e e' => H.out.two_apart g e e', H.out.below⟩

set_option maxHeartbeats 2000000 in
set_option maxRecDepth 100000 in
theorem specForwardBatch (A B : Option Addr) (l : List Fw) (m : List Lt) (n cap k capm : Nat) (hl : n = l.length) (hk : k = m.length) (w : World) (hn : n ≤ 1048576) (hkn : k ≤ 1048576) (hs : ∀ x ∈ l, x.1.size ≤ 1048576 ∧ x.2.size ≤ 1048576) (hsm : ∀ x ∈ m, x.2.size ≤ 1048576) (h : Rd w 2 fwEnc A l) (hm : Rd w 2 ltEnc B m) :
    Calls Try.prog 55 #[.slice A n cap, .slice B k capm] w fun e w' => LtRet2 (fbR l m) w e w' := by
  have Hl := Lib.hid hl
  have Hk := Lib.hid hk
  have Hr := Lib.hid h
  have Hm := Lib.hid hm
  have Hs := Lib.hid hs
  have Hsm := Lib.hid hsm
  clear h hs hl hk hm hsm
  have H : Hid (Pool w ((w.alloc (Obj.cells #[] 42)).alloc (Obj.cells #[] 42)) [ownP 42 2 ltEnc (.slice (some ⟨w.heap.size + 1, 0, none⟩) 0 0) [], ownP 42 2 ltEnc (.slice (some ⟨w.heap.size, 0, none⟩) 0 0) []]) := by
    have h := ((Pool.nil_ w).addOwn ((Below.refl _ _).alloc (Nat.le_refl _) _) (Own.lit0 w 42 2 ltEnc)).addOwn ((Below.refl _ _).alloc (Nat.le_refl _) _) (Own.lit0 (w.alloc (Obj.cells #[] 42)) 42 2 ltEnc)
    rw [World.size_alloc] at h
    exact h
  cases hv : fwsOk l
  · have Hd : Hid (fbR l m = noLtR) := by show fbR _ _ = _; unfold fbR; rw [hv]; rfl
    go_enter Try.func55, Try.ntmps55
    go_wp2_with fail
    refine (specForwardsValid _ l _ _ Hl.out _ (by omega) Hs.out (Hr.out.below H.out.below)).mono ?_
    rw [hv]
    rintro e w1 ⟨rfl, rfl⟩
    go_wp2
    go_ret3
    rw [Hd.out]
    exact ⟨_, 0, 0, _, 0, 0, rfl, H.out.res 1 rfl, H.out.res 0 rfl, fun g e e' => H.out.two_apart g e' e, H.out.below⟩
  · cases hw : batchOk m
    · have Hd : Hid (fbR l m = noLtR) := by show fbR _ _ = _; unfold fbR; rw [hv, hw]; rfl
      go_enter Try.func55, Try.ntmps55
      go_wp2_with fail
      refine (specForwardsValid _ l _ _ Hl.out _ (by omega) Hs.out (Hr.out.below H.out.below)).mono ?_
      rw [hv]
      rintro e w1 ⟨rfl, rfl⟩
      go_wp2_with fail
      refine (specBatchValid B m _ _ Hk.out _ (by omega) Hsm.out (Hm.out.below H.out.below)).mono ?_
      rw [hw]
      rintro e w2 ⟨rfl, hb⟩
      have H := Lib.hid (H.out.step hb)
      clear hb
      go_wp2
      go_ret3
      rw [Hd.out]
      exact ⟨_, 0, 0, _, 0, 0, rfl, H.out.res 1 rfl, H.out.res 0 rfl, fun g e e' => H.out.two_apart g e' e, H.out.below⟩
    · have Hd : Hid (fbR l m = ⟨sentOf l m, stuckOf l m, true⟩) := by show fbR _ _ = _; unfold fbR; rw [hv, hw]; rfl
      go_enter Try.func55, Try.ntmps55
      go_wp2_with fail
      refine (specForwardsValid _ l _ _ Hl.out _ (by omega) Hs.out (Hr.out.below H.out.below)).mono ?_
      rw [hv]
      rintro e w1 ⟨rfl, rfl⟩
      go_wp2_with fail
      refine (specBatchValid B m _ _ Hk.out _ (by omega) Hsm.out (Hm.out.below H.out.below)).mono ?_
      rw [hw]
      rintro e w2 ⟨rfl, hb⟩
      have H := Lib.hid (H.out.step hb)
      clear hb hv hw
      go_wp2_with fail
      go_loopw [9, 7, 8] (fun i f t wr => ∃ j : Nat, j ≤ k ∧ i = .int .i64 j ∧ ∃ A1 n1 c1 A2 n2 c2, f = .slice A1 n1 c1 ∧ t = .slice A2 n2 c2 ∧ n1 ≤ j ∧ n2 ≤ j ∧ Hid (Pool w wr [ownP 42 2 ltEnc (.slice A2 n2 c2) (stuckOf l (m.take j)), ownP 42 2 ltEnc (.slice A1 n1 c1) (sentOf l (m.take j))])) (fun i _ _ _ => k - (intOf i).toNat)
      case atStart => exact ⟨0, Nat.zero_le _, rfl, _, 0, 0, _, 0, 0, rfl, rfl, Nat.le_refl _, Nat.le_refl _, H⟩
      case round =>
        clear H
        obtain ⟨j, hj, rfl, A1, n1, c1, A2, n2, c2, rfl, rfl, hn1, hn2, H⟩ := hrel
        by_cases hlt : j < k
        · obtain ⟨x, hx⟩ : ∃ x, m[j]? = some x := ⟨_, List.getElem?_eq_getElem (by have := Hk.out; omega)⟩
          obtain ⟨ad, rfl, hab, d0, d1⟩ := (Hm.out.below H.out.below).two hx rfl
          cases hv : (follow l x.2).isSome
          · have F1 : Hid (sentOf l (m.take (j + 1)) = sentOf l (m.take j)) := by show _ = _; rw [sent_step hx hv]; rfl
            have F2 : Hid (stuckOf l (m.take (j + 1)) = stuckOf l (m.take j) ++ [x]) := by show _ = _; rw [stuck_step hx hv]; rfl
            have Hv : Hid (resVal (follow l x.2) = .tuple #[.string (endOf l x), .int .i64 (endN (follow l x.2) : Nat), .bool false]) := by show _ = _; rw [resVal_eq, hv]; rfl
            clear hv
            go_wp2_with fail
            refine (specFollow _ l _ _ Hl.out x.2 _ (by omega) (Hr.out.below H.out.below)).mono ?_
            rw [Hv.out]
            rintro e w3 ⟨rfl, rfl⟩
            have H3 := H
            go_wp2_with (at_builtin; refine wpList_append1L (.tmp 53) (.tmp 58) 40 42 lt_info Try.underlying40 rfl (by decide) rfl rfl x rfl (H3.out.own 0 rfl).len ((H3.out.own 0 rfl).alloc _) rfl ltEnc_len (ltEnc_cells x rfl) (ltEnc_one _) (by omega) (by omega) (Nat.zero_le _) ?_; intro g3 c3 w4 ho3 hg3 hat3)
            have H4 := Lib.hid ((H3.out.alloc _).append 0 rfl ho3 hg3 (fun k e => by injection e with e; subst e; exact hat3))
            go_roundw
            case rel => exact ⟨j + 1, by omega, by go_num, A1, n1, c1, _, _, _, rfl, rfl, by omega, by omega, by rw [F1.out, F2.out]; exact H4.out⟩
            case measure => simp [intOf]; omega
          · have F1 : Hid (sentOf l (m.take (j + 1)) = sentOf l (m.take j) ++ [(x.1, endOf l x)]) := by show _ = _; rw [sent_step hx hv]; rfl
            have F2 : Hid (stuckOf l (m.take (j + 1)) = stuckOf l (m.take j)) := by show _ = _; rw [stuck_step hx hv]; rfl
            have Hv : Hid (resVal (follow l x.2) = .tuple #[.string (endOf l x), .int .i64 (endN (follow l x.2) : Nat), .bool true]) := by show _ = _; rw [resVal_eq, hv]; rfl
            clear hv
            go_wp2_with fail
            refine (specFollow _ l _ _ Hl.out x.2 _ (by omega) (Hr.out.below H.out.below)).mono ?_
            rw [Hv.out]
            rintro e w3 ⟨rfl, rfl⟩
            have H3 := H
            go_wp2_with (at_builtin; refine wpList_append1L (.tmp 43) (.tmp 51) 40 42 lt_info Try.underlying40 rfl (by decide) rfl rfl (x.1, endOf l x) rfl (H3.out.own 1 rfl).len ((H3.out.own 1 rfl).alloc _) rfl ltEnc_len (ltEnc_cells (x.1, endOf l x) rfl) (ltEnc_one _) (by omega) (by omega) (Nat.zero_le _) ?_; intro g3 c3 w4 ho3 hg3 hat3)
            have H4 := Lib.hid ((H3.out.alloc _).append 1 rfl ho3 hg3 (fun k e => by injection e with e; subst e; exact hat3))
            go_roundw
            case rel => exact ⟨j + 1, by omega, by go_num, _, _, _, A2, n2, c2, rfl, rfl, by omega, by omega, by rw [F1.out, F2.out]; exact H4.out⟩
            case measure => simp [intOf]; omega
        · obtain rfl : j = k := by omega
          go_wp2
          go_ret3
          rw [Hd.out]
          have ht := List.take_of_length_le (l := m) (i := j) (by rw [Hk.out]; exact Nat.le_refl _)
          rw [ht] at H
          exact ⟨A1, n1, c1, A2, n2, c2, rfl, H.out.res 1 rfl, H.out.res 0 rfl, fun g e e' => H.out.two_apart g e' e, H.out.below⟩
end Go.Proofs.Ytbfmohkjnjmmoaa
