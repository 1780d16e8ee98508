/-
  SameForwards, over the draws' text. (XFwS with other imports.)
-/
import Derived.Test.YtfokfdkpbdabhaaDfCon
namespace Go.Proofs.Ytfokfdkpbdabhaa
open Go.RowKit

def endS (r : Option (Str × Nat)) : Str := match r with
  | none => ByteArray.empty
  | some p => p.1
def endN (r : Option (Str × Nat)) : Nat := match r with
  | none => 0
  | some p => p.2
theorem resVal_eq (r : Option (Str × Nat)) : resVal r = .tuple #[.string (endS r), .int .i64 (endN r : Nat), .bool r.isSome] := by
  cases r <;> rfl
/-- Do letters for a code end alike? -/
def sameAt (a b : List Fw) (c : Str) : Bool := decide ((follow a c).isSome = (follow b c).isSome) && decide (endS (follow a c) = endS (follow b c))
def sameOf (a b : List Fw) : Bool := fwsOk a && fwsOk b && (a ++ b).all fun x => sameAt a b x.1
theorem sameOf_bad {a b : List Fw} {k : Nat} {x : Fw} (h : (a ++ b)[k]? = some x) (hb : sameAt a b x.1 = false) : sameOf a b = false := by
  unfold sameOf
  cases ha : (a ++ b).all fun x => sameAt a b x.1
  · simp
  · have := List.all_eq_true.1 ha x (List.mem_of_getElem? h)
    rw [hb] at this; cases this
theorem sameOf_good {a b : List Fw} (ha : fwsOk a = true) (hb : fwsOk b = true) (h : ∀ (k : Nat) (x : Fw), k < (a ++ b).length → (a ++ b)[k]? = some x → sameAt a b x.1 = true) : sameOf a b = true := by
  unfold sameOf
  rw [ha, hb]
  simp only [Bool.true_and]
  refine List.all_eq_true.2 fun x hx => ?_
  obtain ⟨k, hk, rfl⟩ := List.getElem_of_mem hx
  exact h k _ hk (List.getElem?_eq_getElem hk)

set_option maxHeartbeats 4000000 in
set_option maxRecDepth 100000 in
theorem implSame (A B : Option Addr) (a b : List Fw) (n m c d : Nat) (hna : n = a.length) (hmb : m = b.length) (hnc : n ≤ c) (hmd : m ≤ d) (w : World) (hn : n ≤ 1048576) (hm : m ≤ 1048576) (hcn : A = none → c = 0) (hdn : B = none → d = 0)
    (hsa : ∀ x ∈ a, x.1.size ≤ 1048576 ∧ x.2.size ≤ 1048576) (hsb : ∀ x ∈ b, x.1.size ≤ 1048576 ∧ x.2.size ≤ 1048576) (ha : Rd w 2 fwEnc A a) (hb : Rd w 2 fwEnc B b) :
    Calls Try.prog 47 #[.slice A n c, .slice B m d] w fun e w' => e = .returned (.bool (sameOf a b)) ∧ Below w.heap.size w w' := by
  have Ha := Lib.hid ha
  have Hb := Lib.hid hb
  have Hna := Lib.hid hna
  have Hmb := Lib.hid hmb
  have Hsa := Lib.hid hsa
  have Hsb := Lib.hid hsb
  have Hcn := Lib.hid hcn
  have Hdn := Lib.hid hdn
  clear ha hb hna hmb hsa hsb hcn hdn
  cases hva : fwsOk a
  · have Hs : Hid (sameOf a b = false) := by show sameOf a b = _; unfold sameOf; rw [hva]; rfl
    go_enter Try.func47, Try.ntmps47
    go_wp2_with (go_at_call 27; refine (implForwardsValid _ a _ _ Hna.out hnc _ (by omega) Hsa.out Ha.out).mono ?_; rintro e w1 ⟨rfl, hb1⟩)
    go_ret
    exact ⟨ret_bool Hs.out.symm, hb1⟩
  · cases hvb : fwsOk b
    · have Hs : Hid (sameOf a b = false) := by show sameOf a b = _; unfold sameOf; rw [hvb]; simp
      go_enter Try.func47, Try.ntmps47
      go_wp2_with fail
      refine (implForwardsValid _ a _ _ Hna.out hnc _ (by omega) Hsa.out Ha.out).mono ?_
      rintro e w1 ⟨rfl, hb1⟩
      go_wp2_with fail
      refine (implForwardsValid _ b _ _ Hmb.out hmd _ (by omega) Hsb.out (Hb.out.below hb1)).mono ?_
      rintro e w2 ⟨rfl, hb2⟩
      go_wp2
      go_ret
      exact ⟨ret_bool Hs.out.symm, below_step hb1 hb2⟩
    · have Hva := Lib.hid hva
      have Hvb := Lib.hid hvb
      go_enter Try.func47, Try.ntmps47
      go_wp2_with fail
      refine (implForwardsValid _ a _ _ Hna.out hnc _ (by omega) Hsa.out Ha.out).mono ?_
      rintro e w1 ⟨rfl, hb1⟩
      go_wp2_with fail
      refine (implForwardsValid _ b _ _ Hmb.out hmd _ (by omega) Hsb.out (Hb.out.below hb1)).mono ?_
      rw [hvb]
      rintro e w2 ⟨rfl, hb2⟩
      have B2 := below_step hb1 hb2
      clear hva hvb
      go_wp2_with fail
      refine (concatFw A B a b n m c d _ Hna.out Hmb.out _ (by omega) (by omega) Hcn.out Hdn.out (by simp) (by simp) ((Ha.out.below B2).below ((Below.refl _ _).alloc (Nat.le_refl _) _)) ((Hb.out.below B2).below ((Below.refl _ _).alloc (Nat.le_refl _) _))).mono ?_
      rintro e w3 ⟨A3, c3, rfl, ho3, hb3⟩
      have B3 := below_step (B2.alloc B2.size _) hb3
      obtain ⟨L, hL⟩ : ∃ L, L = a ++ b := ⟨_, rfl⟩
      rw [← hL] at ho3
      have hlen := ho3.len
      obtain ⟨q, hq⟩ : ∃ q, q = n + m := ⟨_, rfl⟩
      have hqm : q ≤ 2097152 := by omega
      have hqe : Hid ((n : Int) + (m : Int) = (q : Int)) := by show _ = _; omega
      rw [← hq] at ho3 hlen ⊢
      have Hr3 := Lib.hid (ho3.rd fwEnc_len)
      have Hlen := Lib.hid hlen
      have HL := Lib.hid hL
      clear ho3 hlen hL hq
      go_wp2_with fail
      go_loopw [26] (fun i wr => ∃ k : Nat, k ≤ q ∧ i = .int .i64 k ∧ Below w.heap.size w wr ∧ Below w3.heap.size w3 wr ∧ Hid (∀ (j : Nat) (x : Fw), j < k → L[j]? = some x → sameAt a b x.1 = true)) (fun i _ => q - (intOf i).toNat)
      case atStart => exact ⟨0, Nat.zero_le _, rfl, B3, Below.refl _ _, fun j x hj => absurd hj (by omega)⟩
      case round =>
        obtain ⟨k, hk, rfl, hb, h3, H⟩ := hrel
        by_cases hlt : k < q
        · obtain ⟨x, hx⟩ : ∃ x, L[k]? = some x := ⟨_, List.getElem?_eq_getElem (by have := Hlen.out; omega)⟩
          obtain ⟨ad, rfl, hab, c0, c1⟩ := (Hr3.out.below h3).two hx rfl
          have Hx := Lib.hid hx
          clear hx
          obtain ⟨s1, hs1⟩ : ∃ s1, s1 = endS (follow a x.1) := ⟨_, rfl⟩
          obtain ⟨s2, hs2⟩ : ∃ s2, s2 = endS (follow b x.1) := ⟨_, rfl⟩
          obtain ⟨o1, ho1⟩ : ∃ o1, o1 = (follow a x.1).isSome := ⟨_, rfl⟩
          obtain ⟨o2, ho2⟩ : ∃ o2, o2 = (follow b x.1).isSome := ⟨_, rfl⟩
          have Hf1 : Hid (resVal (follow a x.1) = .tuple #[.string s1, .int .i64 (endN (follow a x.1) : Nat), .bool o1]) := by rw [hs1, ho1]; exact resVal_eq _
          have Hf2 : Hid (resVal (follow b x.1) = .tuple #[.string s2, .int .i64 (endN (follow b x.1) : Nat), .bool o2]) := by rw [hs2, ho2]; exact resVal_eq _
          have Hat : Hid (sameAt a b x.1 = (decide (o1 = o2) && decide (s1 = s2))) := by show _ = _; rw [hs1, hs2, ho1, ho2]; rfl
          clear hs1 hs2 ho1 ho2
          have hcase : (o1 = o2 ∧ s1 = s2) ∨ (¬ (o1 = o2)) ∨ (o1 = o2 ∧ ¬ s1 = s2) := by
            by_cases e1 : o1 = o2 <;> by_cases e2 : s1 = s2 <;> simp [e1, e2]
          rcases hcase with ⟨rfl, rfl⟩ | hne | ⟨rfl, hne⟩
          · have q1 := str_t (a := s1) rfl
            have Hok : Hid (sameAt a b x.1 = true) := by show _ = _; rw [Hat.out]; simp
            go_wp2_with fail
            refine (implFollow _ a _ _ Hna.out _ _ (by omega) ((Ha.out.below hb).below ((Below.refl _ _).alloc (Nat.le_refl _) _))).mono ?_
            rw [Hf1.out]
            rintro e w4 ⟨rfl, hb4⟩
            have B4 := below_step (hb.alloc hb.size _) hb4
            have T4 := below_step (h3.alloc h3.size _) hb4
            have d0 : w4.cell? ⟨wr.heap.size, 0, none⟩ = some (.string x.1) := below_cell hb4 (by simp)
            go_wp2_with fail
            refine (implFollow _ b _ _ Hmb.out _ _ (by omega) (Hb.out.below B4)).mono ?_
            rw [Hf2.out]
            rintro e w5 ⟨rfl, hb5⟩
            have B5 := below_step B4 hb5
            have T5 := below_step T4 hb5
            cases o1
            all_goals
              go_wp2
              go_roundw
              case rel =>
                refine ⟨k + 1, by omega, by go_num, B5, T5, fun j y hj hy => ?_⟩
                by_cases e : j = k
                · subst e
                  rw [Hx.out] at hy
                  injection hy with hy
                  subst hy
                  exact Hok.out
                · exact H.out j y (by omega) hy
              case measure => simp [intOf]; omega
          · have Hbad : Hid (sameOf a b = false) := sameOf_bad (by rw [← HL.out]; exact Hx.out) (by rw [Hat.out]; simp [hne])
            cases o1 <;> cases o2
            · exact absurd rfl hne
            rotate_left 2
            · exact absurd rfl hne
            all_goals
              clear hne
              go_wp2_with fail
              refine (implFollow _ a _ _ Hna.out _ _ (by omega) ((Ha.out.below hb).below ((Below.refl _ _).alloc (Nat.le_refl _) _))).mono ?_
              rw [Hf1.out]
              rintro e w4 ⟨rfl, hb4⟩
              have B4 := below_step (hb.alloc hb.size _) hb4
              have d0 : w4.cell? ⟨wr.heap.size, 0, none⟩ = some (.string x.1) := below_cell hb4 (by simp)
              go_wp2_with fail
              refine (implFollow _ b _ _ Hmb.out _ _ (by omega) (Hb.out.below B4)).mono ?_
              rw [Hf2.out]
              rintro e w5 ⟨rfl, hb5⟩
              go_wp2
              go_ret
              exact ⟨ret_bool Hbad.out.symm, below_step B4 hb5⟩
          · have Hbad : Hid (sameOf a b = false) := sameOf_bad (by rw [← HL.out]; exact Hx.out) (by rw [Hat.out]; simp [hne])
            have q1 := str_f hne
            clear hne
            cases o1
            all_goals
              go_wp2_with fail
              refine (implFollow _ a _ _ Hna.out _ _ (by omega) ((Ha.out.below hb).below ((Below.refl _ _).alloc (Nat.le_refl _) _))).mono ?_
              rw [Hf1.out]
              rintro e w4 ⟨rfl, hb4⟩
              have B4 := below_step (hb.alloc hb.size _) hb4
              have d0 : w4.cell? ⟨wr.heap.size, 0, none⟩ = some (.string x.1) := below_cell hb4 (by simp)
              go_wp2_with fail
              refine (implFollow _ b _ _ Hmb.out _ _ (by omega) (Hb.out.below B4)).mono ?_
              rw [Hf2.out]
              rintro e w5 ⟨rfl, hb5⟩
              go_wp2
              go_ret
              exact ⟨ret_bool Hbad.out.symm, below_step B4 hb5⟩
        · obtain rfl : k = q := by omega
          go_wp2
          go_ret
          exact ⟨ret_bool (sameOf_good Hva.out Hvb.out fun j x hj hx => by rw [← HL.out] at hj hx; exact H.out j x (by have := Hlen.out; omega) hx).symm, hb⟩
end Go.Proofs.Ytfokfdkpbdabhaa
