/-
  Two lists of orders that send all letters to the same ends: the program's SameForwards and the reference's.
-/
import Derived.Test.YtdpmjohfjpohjaaConFw
namespace Go.Proofs.Ytdpmjohfjpohjaa
open Go.RowKit

def endS (r : Option (Str × Nat)) : Str := match r with
  | none => ByteArray.empty
  | some p => p.1
def endN (r : Option (Str × Nat)) : Nat := match r with
  | none => 0
  | some p => p.2
theorem resVal_eq (r : Option (Str × Nat)) : resVal r = .tuple #[.string (endS r), .int .i64 (endN r : Nat), .bool r.isSome] := by
  cases r <;> rfl
/-- Do letters for a code end alike? -/
def sameAt (a b : List Fw) (c : Str) : Bool := decide ((follow a c).isSome = (follow b c).isSome) && decide (endS (follow a c) = endS (follow b c))
def sameOf (a b : List Fw) : Bool := fwsOk a && fwsOk b && (a ++ b).all fun x => sameAt a b x.1
theorem sameOf_bad {a b : List Fw} {k : Nat} {x : Fw} (h : (a ++ b)[k]? = some x) (hb : sameAt a b x.1 = false) : sameOf a b = false := by
  unfold sameOf
  cases ha : (a ++ b).all fun x => sameAt a b x.1
  · simp
  · have := List.all_eq_true.1 ha x (List.mem_of_getElem? h)
    rw [hb] at this; cases this
theorem sameOf_good {a b : List Fw} (ha : fwsOk a = true) (hb : fwsOk b = true) (h : ∀ (k : Nat) (x : Fw), k < (a ++ b).length → (a ++ b)[k]? = some x → sameAt a b x.1 = true) : sameOf a b = true := by
  unfold sameOf
  rw [ha, hb]
  simp only [Bool.true_and]
  refine List.all_eq_true.2 fun x hx => ?_
  obtain ⟨k, hk, rfl⟩ := List.getElem_of_mem hx
  exact h k _ hk (List.getElem?_eq_getElem hk)

set_option maxHeartbeats 4000000 in
set_option maxRecDepth 100000 in
theorem implSame (A B : Option Addr) (a b : List Fw) (n m c d : Nat) (hna : n = a.length) (hmb : m = b.length) (hnc : n ≤ c) (hmd : m ≤ d) (w : World) (hn : n ≤ 1048576) (hm : m ≤ 1048576) (hcn : A = none → c = 0) (hdn : B = none → d = 0)
    (hsa : ∀ x ∈ a, x.1.size ≤ 1048576 ∧ x.2.size ≤ 1048576) (hsb : ∀ x ∈ b, x.1.size ≤ 1048576 ∧ x.2.size ≤ 1048576) (ha : Rd w 2 fwEnc A a) (hb : Rd w 2 fwEnc B b) :
    Calls Try.prog 30 #[.slice A n c, .slice B m d] w fun e w' => e = .returned (.bool (sameOf a b)) ∧ Below w.heap.size w w' := by
  have Ha := Lib.hid ha
  have Hb := Lib.hid hb
  have Hna := Lib.hid hna
  have Hmb := Lib.hid hmb
  have Hsa := Lib.hid hsa
  have Hsb := Lib.hid hsb
  have Hcn := Lib.hid hcn
  have Hdn := Lib.hid hdn
  clear ha hb hna hmb hsa hsb hcn hdn
  cases hva : fwsOk a
  · have Hs : Hid (sameOf a b = false) := by show sameOf a b = _; unfold sameOf; rw [hva]; rfl
    go_enter Try.func30, Try.ntmps30
    go_wp2_with (go_at_call 17; refine (implForwardsValid _ a _ _ Hna.out hnc _ (by omega) Hsa.out Ha.out).mono ?_; rintro e w1 ⟨rfl, hb1⟩)
    go_ret
    exact ⟨ret_bool Hs.out.symm, hb1⟩
  · cases hvb : fwsOk b
    · have Hs : Hid (sameOf a b = false) := by show sameOf a b = _; unfold sameOf; rw [hvb]; simp
      go_enter Try.func30, Try.ntmps30
      go_wp2_with fail
      refine (implForwardsValid _ a _ _ Hna.out hnc _ (by omega) Hsa.out Ha.out).mono ?_
      rintro e w1 ⟨rfl, hb1⟩
      go_wp2_with fail
      refine (implForwardsValid _ b _ _ Hmb.out hmd _ (by omega) Hsb.out (Hb.out.below hb1)).mono ?_
      rintro e w2 ⟨rfl, hb2⟩
      go_wp2
      go_ret
      exact ⟨ret_bool Hs.out.symm, below_step hb1 hb2⟩
    · have Hva := Lib.hid hva
      have Hvb := Lib.hid hvb
      go_enter Try.func30, Try.ntmps30
      go_wp2_with fail
      refine (implForwardsValid _ a _ _ Hna.out hnc _ (by omega) Hsa.out Ha.out).mono ?_
      rintro e w1 ⟨rfl, hb1⟩
      go_wp2_with fail
      refine (implForwardsValid _ b _ _ Hmb.out hmd _ (by omega) Hsb.out (Hb.out.below hb1)).mono ?_
      rw [hvb]
      rintro e w2 ⟨rfl, hb2⟩
      have B2 := below_step hb1 hb2
      clear hva hvb
      go_wp2_with fail
      refine (concatFw A B a b n m c d _ Hna.out Hmb.out _ (by omega) (by omega) Hcn.out Hdn.out (by simp) (by simp) ((Ha.out.below B2).below ((Below.refl _ _).alloc (Nat.le_refl _) _)) ((Hb.out.below B2).below ((Below.refl _ _).alloc (Nat.le_refl _) _))).mono ?_
      rintro e w3 ⟨A3, c3, rfl, ho3, hb3⟩
      have B3 := below_step (B2.alloc B2.size _) hb3
      obtain ⟨L, hL⟩ : ∃ L, L = a ++ b := ⟨_, rfl⟩
      rw [← hL] at ho3
      have hlen := ho3.len
      obtain ⟨q, hq⟩ : ∃ q, q = n + m := ⟨_, rfl⟩
      have hqm : q ≤ 2097152 := by omega
      have hqe : Hid ((n : Int) + (m : Int) = (q : Int)) := by show _ = _; omega
      rw [← hq] at ho3 hlen ⊢
      have Hr3 := Lib.hid (ho3.rd fwEnc_len)
      have Hlen := Lib.hid hlen
      have HL := Lib.hid hL
      clear ho3 hlen hL hq
      go_wp2_with fail
      go_loopw [26] (fun i wr => ∃ k : Nat, k ≤ q ∧ i = .int .i64 k ∧ Below w.heap.size w wr ∧ Below w3.heap.size w3 wr ∧ Hid (∀ (j : Nat) (x : Fw), j < k → L[j]? = some x → sameAt a b x.1 = true)) (fun i _ => q - (intOf i).toNat)
      case atStart => exact ⟨0, Nat.zero_le _, rfl, B3, Below.refl _ _, fun j x hj => absurd hj (by omega)⟩
      case round =>
        obtain ⟨k, hk, rfl, hb, h3, H⟩ := hrel
        by_cases hlt : k < q
        · obtain ⟨x, hx⟩ : ∃ x, L[k]? = some x := ⟨_, List.getElem?_eq_getElem (by have := Hlen.out; omega)⟩
          obtain ⟨ad, rfl, hab, c0, c1⟩ := (Hr3.out.below h3).two hx rfl
          have Hx := Lib.hid hx
          clear hx
          obtain ⟨s1, hs1⟩ : ∃ s1, s1 = endS (follow a x.1) := ⟨_, rfl⟩
          obtain ⟨s2, hs2⟩ : ∃ s2, s2 = endS (follow b x.1) := ⟨_, rfl⟩
          obtain ⟨o1, ho1⟩ : ∃ o1, o1 = (follow a x.1).isSome := ⟨_, rfl⟩
          obtain ⟨o2, ho2⟩ : ∃ o2, o2 = (follow b x.1).isSome := ⟨_, rfl⟩
          have Hf1 : Hid (resVal (follow a x.1) = .tuple #[.string s1, .int .i64 (endN (follow a x.1) : Nat), .bool o1]) := by rw [hs1, ho1]; exact resVal_eq _
          have Hf2 : Hid (resVal (follow b x.1) = .tuple #[.string s2, .int .i64 (endN (follow b x.1) : Nat), .bool o2]) := by rw [hs2, ho2]; exact resVal_eq _
          have Hat : Hid (sameAt a b x.1 = (decide (o1 = o2) && decide (s1 = s2))) := by show _ = _; rw [hs1, hs2, ho1, ho2]; rfl
          clear hs1 hs2 ho1 ho2
          have hcase : (o1 = o2 ∧ s1 = s2) ∨ (¬ (o1 = o2)) ∨ (o1 = o2 ∧ ¬ s1 = s2) := by
            by_cases e1 : o1 = o2 <;> by_cases e2 : s1 = s2 <;> simp [e1, e2]
          rcases hcase with ⟨rfl, rfl⟩ | hne | ⟨rfl, hne⟩
          · have q1 := str_t (a := s1) rfl
            have Hok : Hid (sameAt a b x.1 = true) := by show _ = _; rw [Hat.out]; simp
            go_wp2_with fail
            refine (implFollow _ a _ _ Hna.out _ _ (by omega) ((Ha.out.below hb).below ((Below.refl _ _).alloc (Nat.le_refl _) _))).mono ?_
            rw [Hf1.out]
            rintro e w4 ⟨rfl, hb4⟩
            have B4 := below_step (hb.alloc hb.size _) hb4
            have T4 := below_step (h3.alloc h3.size _) hb4
            have d0 : w4.cell? ⟨wr.heap.size, 0, none⟩ = some (.string x.1) := below_cell hb4 (by simp)
            go_wp2_with fail
            refine (implFollow _ b _ _ Hmb.out _ _ (by omega) (Hb.out.below B4)).mono ?_
            rw [Hf2.out]
            rintro e w5 ⟨rfl, hb5⟩
            have B5 := below_step B4 hb5
            have T5 := below_step T4 hb5
            cases o1
            all_goals
              go_wp2
              go_roundw
              case rel =>
                refine ⟨k + 1, by omega, by go_num, B5, T5, fun j y hj hy => ?_⟩
                by_cases e : j = k
                · subst e
                  rw [Hx.out] at hy
                  injection hy with hy
                  subst hy
                  exact Hok.out
                · exact H.out j y (by omega) hy
              case measure => simp [intOf]; omega
          · have Hbad : Hid (sameOf a b = false) := sameOf_bad (by rw [← HL.out]; exact Hx.out) (by rw [Hat.out]; simp [hne])
            cases o1 <;> cases o2
            · exact absurd rfl hne
            rotate_left 2
            · exact absurd rfl hne
            all_goals
              clear hne
              go_wp2_with fail
              refine (implFollow _ a _ _ Hna.out _ _ (by omega) ((Ha.out.below hb).below ((Below.refl _ _).alloc (Nat.le_refl _) _))).mono ?_
              rw [Hf1.out]
              rintro e w4 ⟨rfl, hb4⟩
              have B4 := below_step (hb.alloc hb.size _) hb4
              have d0 : w4.cell? ⟨wr.heap.size, 0, none⟩ = some (.string x.1) := below_cell hb4 (by simp)
              go_wp2_with fail
              refine (implFollow _ b _ _ Hmb.out _ _ (by omega) (Hb.out.below B4)).mono ?_
              rw [Hf2.out]
              rintro e w5 ⟨rfl, hb5⟩
              go_wp2
              go_ret
              exact ⟨ret_bool Hbad.out.symm, below_step B4 hb5⟩
          · have Hbad : Hid (sameOf a b = false) := sameOf_bad (by rw [← HL.out]; exact Hx.out) (by rw [Hat.out]; simp [hne])
            have q1 := str_f hne
            clear hne
            cases o1
            all_goals
              go_wp2_with fail
              refine (implFollow _ a _ _ Hna.out _ _ (by omega) ((Ha.out.below hb).below ((Below.refl _ _).alloc (Nat.le_refl _) _))).mono ?_
              rw [Hf1.out]
              rintro e w4 ⟨rfl, hb4⟩
              have B4 := below_step (hb.alloc hb.size _) hb4
              have d0 : w4.cell? ⟨wr.heap.size, 0, none⟩ = some (.string x.1) := below_cell hb4 (by simp)
              go_wp2_with fail
              refine (implFollow _ b _ _ Hmb.out _ _ (by omega) (Hb.out.below B4)).mono ?_
              rw [Hf2.out]
              rintro e w5 ⟨rfl, hb5⟩
              go_wp2
              go_ret
              exact ⟨ret_bool Hbad.out.symm, below_step B4 hb5⟩
        · obtain rfl : k = q := by omega
          go_wp2
          go_ret
          exact ⟨ret_bool (sameOf_good Hva.out Hvb.out fun j x hj hx => by rw [← HL.out] at hj hx; exact H.out j x (by have := Hlen.out; omega) hx).symm, hb⟩

set_option maxHeartbeats 4000000 in
set_option maxRecDepth 100000 in
theorem specSame (A B : Option Addr) (a b : List Fw) (n m c d : Nat) (hna : n = a.length) (hmb : m = b.length) (w : World) (hn : n ≤ 1048576) (hm : m ≤ 1048576) (hcn : A = none → c = 0) (hdn : B = none → d = 0)
    (hsa : ∀ x ∈ a, x.1.size ≤ 1048576 ∧ x.2.size ≤ 1048576) (hsb : ∀ x ∈ b, x.1.size ≤ 1048576 ∧ x.2.size ≤ 1048576) (ha : Rd w 2 fwEnc A a) (hb : Rd w 2 fwEnc B b) :
    Calls Try.prog 29 #[.slice A n c, .slice B m d] w fun e w' => e = .returned (.bool (sameOf a b)) ∧ Below w.heap.size w w' := by
  have Ha := Lib.hid ha
  have Hb := Lib.hid hb
  have Hna := Lib.hid hna
  have Hmb := Lib.hid hmb
  have Hsa := Lib.hid hsa
  have Hsb := Lib.hid hsb
  have Hcn := Lib.hid hcn
  have Hdn := Lib.hid hdn
  clear ha hb hna hmb hsa hsb hcn hdn
  cases hva : fwsOk a
  · have Hs : Hid (sameOf a b = false) := by show sameOf a b = _; unfold sameOf; rw [hva]; rfl
    go_enter Try.func29, Try.ntmps29
    go_wp2_with (go_at_call 15; refine (specForwardsValid _ a _ _ Hna.out _ (by omega) Hsa.out Ha.out).mono ?_; rintro e w1 ⟨rfl, rfl⟩)
    go_ret
    exact ⟨ret_bool Hs.out.symm, Below.refl _ _⟩
  · cases hvb : fwsOk b
    · have Hs : Hid (sameOf a b = false) := by show sameOf a b = _; unfold sameOf; rw [hvb]; simp
      go_enter Try.func29, Try.ntmps29
      go_wp2_with fail
      refine (specForwardsValid _ a _ _ Hna.out _ (by omega) Hsa.out Ha.out).mono ?_
      rintro e w1 ⟨rfl, rfl⟩
      go_wp2_with fail
      refine (specForwardsValid _ b _ _ Hmb.out _ (by omega) Hsb.out Hb.out).mono ?_
      rintro e w2 ⟨rfl, rfl⟩
      go_wp2
      go_ret
      exact ⟨ret_bool Hs.out.symm, Below.refl _ _⟩
    · have Hva := Lib.hid hva
      have Hvb := Lib.hid hvb
      go_enter Try.func29, Try.ntmps29
      go_wp2_with fail
      refine (specForwardsValid _ a _ _ Hna.out _ (by omega) Hsa.out Ha.out).mono ?_
      rintro e w1 ⟨rfl, rfl⟩
      go_wp2_with fail
      refine (specForwardsValid _ b _ _ Hmb.out _ (by omega) Hsb.out Hb.out).mono ?_
      rw [hvb]
      rintro e w2 ⟨rfl, rfl⟩
      clear hva hvb
      have Ho0 : Hid (Own (w.alloc (.cells #[] 52)) w.heap.size 52 2 fwEnc (.slice (some ⟨w.heap.size, 0, none⟩) 0 0) []) := Own.lit0 _ _ _ _
      have hb0 : Below w.heap.size w (w.alloc (.cells #[] 52)) := (Below.refl _ _).alloc (Nat.le_refl _) _
      have tok1 : True := trivial
      go_wp2_with (first
        | (at_builtin; have _t := tok1; refine wpList_appendL (.tmp 21) (.tmp 22) 25 52 fw_info Try.underlying25 rfl (by decide) rfl rfl rfl Ho0.out rfl Hna.out Hcn.out fwEnc_len (Ha.out.below hb0) (fun y _ => fwEnc_one y) (by simp; omega) (by simp; omega) hb0.size ?_; intro A2 c2 w2 ho2 hg2; clear tok1; have hb2 : Below w.heap.size w w2 := hb0.grown hg2 hb0.size (fun k hk => (Ho0.out.lt k hk).1); rw [List.nil_append, List.length_nil, Nat.zero_add] at ho2; have Ho2 := Lib.hid ho2; clear ho2 hg2)
        | (at_builtin; refine wpList_appendL (.tmp 23) (.tmp 24) 25 52 fw_info Try.underlying25 rfl (by decide) rfl rfl rfl Ho2.out rfl Hmb.out Hdn.out fwEnc_len (Hb.out.below hb2) (fun y _ => fwEnc_one y) (by have := Ho2.out.len; omega) (by have := Ho2.out.len; omega) hb2.size ?_; intro A3 c3 w3 ho3 hg3; have B3 : Below w.heap.size w w3 := hb2.grown hg3 hb2.size (fun k hk => (Ho2.out.lt k hk).1); have Ho3 := Lib.hid ho3; clear ho3 hg3 Ho2 hb2 Ho0 hb0))
      have hlen := Ho3.out.len
      have hnl : a.length ≤ n := by have := Hna.out; omega
      obtain ⟨L, hL⟩ : ∃ L, L = a ++ b := ⟨_, rfl⟩
      rw [← hL] at Ho3 hlen
      obtain ⟨q, hq⟩ : ∃ q, q = a.length + m := ⟨_, rfl⟩
      have hqm : q ≤ 2097152 := by omega
      have hqe : Hid ((a.length : Int) + (m : Int) = (q : Int)) := by show _ = _; omega
      rw [← hq] at Ho3 hlen ⊢
      have Hr3 := Lib.hid (Ho3.out.rd fwEnc_len)
      have Hlen := Lib.hid hlen
      have HL := Lib.hid hL
      have Ha3 := Lib.hid (Ha.out.below B3)
      have Hb3 := Lib.hid (Hb.out.below B3)
      clear hlen hL hq
      go_loop [6] (fun i => ∃ k : Nat, k ≤ q ∧ i = .int .i64 k ∧ Hid (∀ (j : Nat) (x : Fw), j < k → L[j]? = some x → sameAt a b x.1 = true)) (fun i => q - (intOf i).toNat)
      case atStart => exact ⟨0, Nat.zero_le _, rfl, fun j x hj => absurd hj (by omega)⟩
      case round =>
        obtain ⟨k, hk, rfl, H⟩ := hrel
        by_cases hlt : k < q
        · obtain ⟨x, hx⟩ : ∃ x, L[k]? = some x := ⟨_, List.getElem?_eq_getElem (by have := Hlen.out; omega)⟩
          obtain ⟨ad, rfl, hab, c0, c1⟩ := Hr3.out.two hx rfl
          have Hx := Lib.hid hx
          clear hx
          obtain ⟨s1, hs1⟩ : ∃ s1, s1 = endS (follow a x.1) := ⟨_, rfl⟩
          obtain ⟨s2, hs2⟩ : ∃ s2, s2 = endS (follow b x.1) := ⟨_, rfl⟩
          obtain ⟨o1, ho1⟩ : ∃ o1, o1 = (follow a x.1).isSome := ⟨_, rfl⟩
          obtain ⟨o2, ho2⟩ : ∃ o2, o2 = (follow b x.1).isSome := ⟨_, rfl⟩
          have Hf1 : Hid (resVal (follow a x.1) = .tuple #[.string s1, .int .i64 (endN (follow a x.1) : Nat), .bool o1]) := by rw [hs1, ho1]; exact resVal_eq _
          have Hf2 : Hid (resVal (follow b x.1) = .tuple #[.string s2, .int .i64 (endN (follow b x.1) : Nat), .bool o2]) := by rw [hs2, ho2]; exact resVal_eq _
          have Hat : Hid (sameAt a b x.1 = (decide (o1 = o2) && decide (s1 = s2))) := by show _ = _; rw [hs1, hs2, ho1, ho2]; rfl
          clear hs1 hs2 ho1 ho2
          have hcase : (o1 = o2 ∧ s1 = s2) ∨ (¬ s1 = s2) ∨ (¬ (o1 = o2) ∧ s1 = s2) := by
            by_cases e1 : o1 = o2 <;> by_cases e2 : s1 = s2 <;> simp [e1, e2]
          rcases hcase with ⟨rfl, rfl⟩ | hne | ⟨hne, rfl⟩
          · have q1 := str_t (a := s1) rfl
            have Hok : Hid (sameAt a b x.1 = true) := by show _ = _; rw [Hat.out]; simp
            cases o1
            all_goals
              go_wp2_with fail
              refine (specFollow _ a _ _ Hna.out _ _ (by omega) Ha3.out).mono ?_
              rw [Hf1.out]
              rintro e w4 ⟨rfl, rfl⟩
              go_wp2_with fail
              refine (specFollow _ b _ _ Hmb.out _ _ (by omega) Hb3.out).mono ?_
              rw [Hf2.out]
              rintro e w5 ⟨rfl, rfl⟩
              go_wp2
              go_round
              case rel =>
                refine ⟨k + 1, by omega, by go_num, fun j y hj hy => ?_⟩
                by_cases e : j = k
                · subst e
                  rw [Hx.out] at hy
                  injection hy with hy
                  subst hy
                  exact Hok.out
                · exact H.out j y (by omega) hy
              case measure => simp [intOf]; omega
          · have Hbad : Hid (sameOf a b = false) := sameOf_bad (by rw [← HL.out]; exact Hx.out) (by rw [Hat.out]; simp [hne])
            have q1 := str_f hne
            clear hne
            go_wp2_with fail
            refine (specFollow _ a _ _ Hna.out _ _ (by omega) Ha3.out).mono ?_
            rw [Hf1.out]
            rintro e w4 ⟨rfl, rfl⟩
            go_wp2_with fail
            refine (specFollow _ b _ _ Hmb.out _ _ (by omega) Hb3.out).mono ?_
            rw [Hf2.out]
            rintro e w5 ⟨rfl, rfl⟩
            go_wp2
            go_ret
            exact ⟨ret_bool Hbad.out.symm, B3⟩
          · have Hbad : Hid (sameOf a b = false) := sameOf_bad (by rw [← HL.out]; exact Hx.out) (by rw [Hat.out]; simp [hne])
            have q1 := str_t (a := s1) rfl
            cases o1 <;> cases o2
            · exact absurd rfl hne
            rotate_left 2
            · exact absurd rfl hne
            all_goals
              clear hne
              go_wp2_with fail
              refine (specFollow _ a _ _ Hna.out _ _ (by omega) Ha3.out).mono ?_
              rw [Hf1.out]
              rintro e w4 ⟨rfl, rfl⟩
              go_wp2_with fail
              refine (specFollow _ b _ _ Hmb.out _ _ (by omega) Hb3.out).mono ?_
              rw [Hf2.out]
              rintro e w5 ⟨rfl, rfl⟩
              go_wp2
              go_ret
              exact ⟨ret_bool Hbad.out.symm, B3⟩
        · obtain rfl : k = q := by omega
          go_wp2
          go_ret
          exact ⟨ret_bool (sameOf_good Hva.out Hvb.out fun j x hj hx => by rw [← HL.out] at hj hx; exact H.out j x (by have := Hlen.out; omega) hx).symm, B3⟩
end Go.Proofs.Ytdpmjohfjpohjaa
