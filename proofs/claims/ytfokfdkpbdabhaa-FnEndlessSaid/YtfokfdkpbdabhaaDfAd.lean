/-
  An order added, over the draws' text. (XFwAd with other imports.)
-/
import Derived.Test.YtfokfdkpbdabhaaDfR
namespace Go.Proofs.Ytfokfdkpbdabhaa
open Go.RowKit

theorem dropTo_mem {l : List Fw} {at_ : Int} {x : Fw} : ∀ {k : Nat}, x ∈ dropTo l at_ k → x ∈ l
  | 0, h => by simp [dropTo] at h
  | k + 1, h => by
    unfold dropTo at h
    split at h
    · exact dropTo_mem h
    · rcases List.mem_append.1 h with h | h
      · exact dropTo_mem h
      · cases hk : l[k]? with
        | none => rw [hk] at h; simp at h
        | some y => rw [hk] at h; simp at h; subst h; exact List.mem_of_getElem? hk
/-- The orders with a new one at their end. -/
def addedOf (l : List Fw) (f t : Str) : List Fw := dropTo l (idxInt (fwIdx l f)) l.length ++ [(f, t)]
def addOf (l : List Fw) (f t : Str) : Option (List Fw) := if fwsOk l && fwsOk (addedOf l f t) && (follow (addedOf l f t) f).isSome then some (addedOf l f t) else none
theorem addedOf_len (l : List Fw) (f t : Str) : (addedOf l f t).length = (dropTo l (idxInt (fwIdx l f)) l.length).length + 1 := by simp [addedOf]
theorem addedOf_small {l : List Fw} {f t : Str} {b : Nat} (hs : ∀ x ∈ l, x.1.size ≤ b ∧ x.2.size ≤ b) (hf : f.size ≤ b) (ht : t.size ≤ b) : ∀ x ∈ addedOf l f t, x.1.size ≤ b ∧ x.2.size ≤ b := by
  intro x hx
  rcases List.mem_append.1 hx with h | h
  · exact hs x (dropTo_mem h)
  · simp at h; subst h; exact ⟨hf, ht⟩

theorem resVal_ok (r : Option (Str × Nat)) : ∃ (s : Str) (n : Nat), resVal r = .tuple #[.string s, .int .i64 n, .bool r.isSome] := by
  cases r with
  | none => exact ⟨_, 0, rfl⟩
  | some p => exact ⟨_, _, rfl⟩

set_option maxHeartbeats 2000000 in
set_option maxRecDepth 100000 in
theorem implAdd (A : Option Addr) (l : List Fw) (n cap : Nat) (hl : n = l.length) (hcap : n ≤ cap) (f t : Str) (w : World) (hn : n ≤ 1048576) (hf : f.size ≤ 1048576) (ht : t.size ≤ 1048576) (hs : ∀ x ∈ l, x.1.size ≤ 1048576 ∧ x.2.size ≤ 1048576) (h : Rd w 2 fwEnc A l) :
    Calls Try.prog 36 #[.slice A n cap, .string f, .string t] w fun e w' => FwRes w w' (addOf l f t) e := by
  have Hr := Lib.hid h
  have Hs := Lib.hid hs
  have Hsa := Lib.hid (addedOf_small hs hf ht)
  have Hl := Lib.hid hl
  have hln : l.length ≤ n := by omega
  clear h hs hl
  cases hv : fwsOk l
  · have Hn : Hid (addOf l f t = none) := by show addOf l f t = none; unfold addOf; rw [hv]; rfl
    go_enter Try.func36, Try.ntmps36
    go_wp2_with (go_at_call 27; refine (implForwardsValid _ l _ _ Hl.out hcap _ (by omega) Hs.out Hr.out).mono ?_; rintro e w1 ⟨rfl, hb1⟩)
    go_ret2
    rw [Hn.out]
    exact FwRes.none_ hb1
  · have hdl := dropTo_len l (idxInt (fwIdx l f)) l.length
    have Hal := Lib.hid (addedOf_len l f t)
    obtain ⟨L, hL⟩ : ∃ L, L = addedOf l f t := ⟨_, rfl⟩
    have hLL : Hid (addOf l f t = if fwsOk L && (follow L f).isSome then some L else none) := by show addOf l f t = _; unfold addOf; rw [hv, ← hL]; rfl
    rw [← hL] at Hal Hsa
    have HL := Lib.hid hL
    clear hL
    cases hv2 : fwsOk L <;> cases hf2 : (follow L f).isSome
    all_goals
      obtain ⟨s0, n0, hF⟩ := resVal_ok (follow L f)
      rw [hf2] at hF
      have HF := Lib.hid hF
      have Hv2 := Lib.hid hv2
      have Hres : Hid (addOf l f t = if fwsOk L && (follow L f).isSome then some L else none) := hLL
      rw [hv2, hf2] at Hres
      clear hF hv2 hf2 hLL
      go_enter Try.func36, Try.ntmps36
      go_wp2_with fail
      refine (implForwardsValid _ l _ _ Hl.out hcap _ (by omega) Hs.out Hr.out).mono ?_
      rw [hv]
      rintro e w1 ⟨rfl, hb1⟩
      go_wp2_with fail
      refine (implForwardOf _ l _ _ Hl.out _ _ (by omega) (Hr.out.below hb1)).mono ?_
      rintro e w2 ⟨rfl, hb2⟩
      have B2 := below_step hb1 hb2
      go_wp2_with fail
      refine (implWithout _ l _ _ Hl.out _ _ (by omega) (Hr.out.below B2)).mono ?_
      rintro e w3 ⟨A3, c3, rfl, ho3, hb3⟩
      have B3 := below_step B2 hb3
      have Ho3 := Lib.hid (ho3.lower B2.size)
      clear ho3
      go_wp2_with (at_builtin; refine wpList_append1 (.tmp 19) (.tmp 23) 27 34 fw_info Try.underlying27 rfl (by decide) rfl rfl (f, t) rfl (Ho3.out.alloc _) rfl fwEnc_len (fwEnc_cells (f, t) rfl) (fwEnc_one _) (by omega) (by omega) (by have := B3.size; simp; omega) ?_; intro A4 c4 w4 ho4 hg4)
      have B4 : Below w.heap.size w w4 := (B3.alloc B3.size _).grown hg4 (by have := B3.size; simp; omega) (fun k hk => (Ho3.out.lt k hk).1)
      have Ho4 : Hid (Own w4 w.heap.size 34 2 fwEnc (.slice A4 ((dropTo l (idxInt (fwIdx l f)) l.length).length + 1) c4) L) := by rw [HL.out]; exact ho4
      have hcap4 := ho4.cap_le
      obtain ⟨m, hm⟩ : ∃ m, m = (dropTo l (idxInt (fwIdx l f)) l.length).length + 1 := ⟨_, rfl⟩
      rw [← hm] at Ho4 hcap4 Hal ⊢
      have hml : m ≤ 16777216 := by omega
      have Hm : Hid (m = L.length) := Hal.out.symm
      clear ho4 hg4 hm hdl
      go_wp2_with fail
      refine (implForwardsValid _ L _ _ Hm.out hcap4 _ hml Hsa.out (Ho4.out.rd fwEnc_len)).mono ?_
      rw [Hv2.out]
      rintro e w5 ⟨rfl, hb5⟩
      have B5 := below_step B4 hb5
    · go_wp2
      go_ret2
      rw [Hres.out]
      exact FwRes.none_ B5
    · go_wp2
      go_ret2
      rw [Hres.out]
      exact FwRes.none_ B5
    · go_wp2_with fail
      refine (implFollow _ L _ _ Hm.out _ _ hml ((Ho4.out.below hb5).rd fwEnc_len)).mono ?_
      rw [HF.out]
      rintro e w6 ⟨rfl, hb6⟩
      go_wp2
      go_ret2
      rw [Hres.out]
      exact FwRes.none_ (below_step B5 hb6)
    · go_wp2_with fail
      refine (implFollow _ L _ _ Hm.out _ _ hml ((Ho4.out.below hb5).rd fwEnc_len)).mono ?_
      rw [HF.out]
      rintro e w6 ⟨rfl, hb6⟩
      go_wp2
      go_ret2
      rw [Hres.out]
      exact FwRes.some_ ((Ho4.out.below hb5).below hb6) (below_step B5 hb6)

set_option maxHeartbeats 2000000 in
set_option maxRecDepth 100000 in
theorem specAdd (A : Option Addr) (l : List Fw) (n cap : Nat) (hl : n = l.length) (f t : Str) (w : World) (hn : n ≤ 1048576) (hf : f.size ≤ 1048576) (ht : t.size ≤ 1048576) (hs : ∀ x ∈ l, x.1.size ≤ 1048576 ∧ x.2.size ≤ 1048576) (h : Rd w 2 fwEnc A l) :
    Calls Try.prog 37 #[.slice A n cap, .string f, .string t] w fun e w' => FwRes w w' (addOf l f t) e := by
  have Hr := Lib.hid h
  have Hs := Lib.hid hs
  have Hsa := Lib.hid (addedOf_small hs hf ht)
  have Hl := Lib.hid hl
  have hln : l.length ≤ n := by omega
  clear h hs hl
  have hdl := dropTo_len l (idxInt (fwIdx l f)) l.length
  have Hal := Lib.hid (addedOf_len l f t)
  obtain ⟨L, hL⟩ : ∃ L, L = addedOf l f t := ⟨_, rfl⟩
  have hLL : Hid (addOf l f t = if fwsOk l && fwsOk L && (follow L f).isSome then some L else none) := by show addOf l f t = _; unfold addOf; rw [← hL]
  rw [← hL] at Hal Hsa
  have HL := Lib.hid hL
  clear hL
  have hcase : (fwsOk l = false) ∨ (fwsOk l = true ∧ fwsOk L = false) ∨ (fwsOk l = true ∧ fwsOk L = true ∧ (follow L f).isSome = false) ∨ (fwsOk l = true ∧ fwsOk L = true ∧ (follow L f).isSome = true) := by
    cases fwsOk l <;> cases fwsOk L <;> cases (follow L f).isSome <;> simp
  obtain ⟨s0, n0, hF⟩ := resVal_ok (follow L f)
  rcases hcase with hv | ⟨hv, hv2⟩ | ⟨hv, hv2, hf2⟩ | ⟨hv, hv2, hf2⟩
  all_goals
    have Hres : Hid (addOf l f t = if fwsOk l && fwsOk L && (follow L f).isSome then some L else none) := hLL
    have HF := Lib.hid hF
    clear hF hLL
    go_enter Try.func37, Try.ntmps37
    go_wp2_with fail
    refine (specIndex _ l _ _ Hl.out _ _ (by omega) Hr.out).mono ?_
    rintro e w2 ⟨rfl, rfl⟩
    go_wp2_with fail
    refine (specWithout _ l _ _ Hl.out _ _ (by omega) Hr.out).mono ?_
    rintro e w3 ⟨A3, c3, rfl, ho3, hb3⟩
    have Ho3 := Lib.hid ho3
    clear ho3
    go_wp2_with (at_builtin; refine wpList_append1 (.tmp 16) (.tmp 20) 27 34 fw_info Try.underlying27 rfl (by decide) rfl rfl (f, t) rfl (Ho3.out.alloc _) rfl fwEnc_len (fwEnc_cells (f, t) rfl) (fwEnc_one _) (by omega) (by omega) (by have := hb3.size; simp; omega) ?_; intro A4 c4 w4 ho4 hg4)
    have B4 : Below w.heap.size w w4 := (hb3.alloc hb3.size _).grown hg4 (by have := hb3.size; simp; omega) (fun k hk => (Ho3.out.lt k hk).1)
    have Ho4 : Hid (Own w4 w.heap.size 34 2 fwEnc (.slice A4 ((dropTo l (idxInt (fwIdx l f)) l.length).length + 1) c4) L) := by rw [HL.out]; exact ho4
    obtain ⟨m, hm⟩ : ∃ m, m = (dropTo l (idxInt (fwIdx l f)) l.length).length + 1 := ⟨_, rfl⟩
    rw [← hm] at Ho4 Hal ⊢
    have hml : m ≤ 16777216 := by omega
    have Hm : Hid (m = L.length) := Hal.out.symm
    clear ho4 hg4 hm hdl
    go_wp2_with fail
    refine (specForwardsValid _ l _ _ Hl.out _ (by omega) Hs.out (Hr.out.below B4)).mono ?_
    rintro e w' ⟨rfl, rfl⟩
  · go_wp2
    go_ret2
    rw [Hres.out, hv]
    exact FwRes.none_lit B4
  · go_wp2_with (go_at_call 72; refine (specForwardsValid _ L _ _ Hm.out _ hml Hsa.out (Ho4.out.rd fwEnc_len)).mono ?_; rintro e w' ⟨rfl, rfl⟩)
    go_ret2
    rw [Hres.out, hv, hv2]
    exact FwRes.none_lit B4
  · go_wp2_with (first
      | (go_at_call 72; refine (specForwardsValid _ L _ _ Hm.out _ hml Hsa.out (Ho4.out.rd fwEnc_len)).mono ?_; rintro e w' ⟨rfl, rfl⟩)
      | (go_at_call 75; refine (specFollow _ L _ _ Hm.out _ _ hml (Ho4.out.rd fwEnc_len)).mono ?_; rw [HF.out]; rintro e w' ⟨rfl, rfl⟩))
    go_ret2
    rw [Hres.out, hv, hv2, hf2]
    exact FwRes.none_lit B4
  · go_wp2_with (first
      | (go_at_call 72; refine (specForwardsValid _ L _ _ Hm.out _ hml Hsa.out (Ho4.out.rd fwEnc_len)).mono ?_; rintro e w' ⟨rfl, rfl⟩)
      | (go_at_call 75; refine (specFollow _ L _ _ Hm.out _ _ hml (Ho4.out.rd fwEnc_len)).mono ?_; rw [HF.out]; rintro e w' ⟨rfl, rfl⟩))
    go_ret2
    rw [Hres.out, hv, hv2, hf2]
    exact FwRes.some_ Ho4.out B4
end Go.Proofs.Ytfokfdkpbdabhaa
