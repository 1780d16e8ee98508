/-
  Looking up an order by its code: the program's forwardOf and the reference's l4Index.
  The validity of orders: the program's ForwardsValid and the reference's.
  Following orders: the program's followOrders, NextCode, ResolveCode, LongestChain and the reference's.
-/
import Derived.Test.YtjibjoapbjojlaaDoorCode
namespace Go.Proofs.YtjibjoapbjojlaaDoor

section
open Go.RowKit

theorem implForwardOf (A : Option Addr) (l : List Fw) (n cap : Nat) (hl : n = l.length) (c : Str) (w : World) (hn : n ≤ 2147483647) (h : Rd w 2 fwEnc A l) :
    Calls Tryd.prog 64 #[.slice A n cap, .string c] w fun e w' => e = .returned (.int .i64 (idxInt (fwIdx l c))) ∧ Below w.heap.size w w' := by
  subst hl
  have Hr := Lib.hid h
  clear h
  go_enter Tryd.func64, Tryd.ntmps64
  go_wp2
  go_loopw [9] (fun i wr => ∃ k : Nat, k ≤ l.length ∧ i = .int .i64 k ∧ Below w.heap.size w wr ∧ Hid (∀ (j : Nat) (x : Fw), j < k → l[j]? = some x → x.1 ≠ c)) (fun i _ => l.length - (intOf i).toNat)
  case atStart => exact ⟨0, Nat.zero_le _, rfl, Below.refl _ _, fun j x hj => absurd hj (by omega)⟩
  case round =>
    obtain ⟨k, hk, rfl, hb, H⟩ := hrel
    by_cases hlt : k < l.length
    · obtain ⟨x, hx⟩ : ∃ x, l[k]? = some x := ⟨_, List.getElem?_eq_getElem hlt⟩
      obtain ⟨ad, rfl, hab, c0, c1⟩ := (Hr.out.below hb).two hx rfl
      have Hx := Lib.hid hx
      clear hx
      by_cases hc : x.1 = c
      · have hq := str_t hc
        have Hc : Hid (fwIdx l c = some k) := fwIdx_some.2 ⟨⟨x, Hx.out, hc⟩, H.out⟩
        clear hc
        go_wp2
        go_ret
        exact ⟨by rw [Hc.out]; rfl, hb.alloc hb.size _⟩
      · have hq := str_f hc
        have Hc := Lib.hid hc
        clear hc
        go_wp2
        go_roundw
        case rel =>
          refine ⟨k + 1, by omega, by go_num, hb.alloc hb.size _, fun j y hj hy => ?_⟩
          by_cases e : j = k
          · subst e
            rw [Hx.out] at hy
            injection hy with hy
            subst hy
            exact Hc.out
          · exact H.out j y (by omega) hy
        case measure => simp [intOf]; omega
    · obtain rfl : k = l.length := by omega
      go_wp2
      go_ret
      exact ⟨by rw [show fwIdx l c = none from fwIdx_none.2 fun i x hx => H.out i x (List.getElem?_eq_some_iff.1 hx).1 hx]; rfl, hb⟩

theorem specIndex (A : Option Addr) (l : List Fw) (n cap : Nat) (hl : n = l.length) (c : Str) (w : World) (hn : n ≤ 2147483647) (h : Rd w 2 fwEnc A l) :
    Calls Tryd.prog 89 #[.slice A n cap, .string c] w fun e w' => e = .returned (.int .i64 (idxInt (fwIdx l c))) ∧ w = w' := by
  subst hl
  have Hr := Lib.hid h
  clear h
  go_enter Tryd.func89, Tryd.ntmps89
  go_wp2
  go_loop [5] (fun i => ∃ k : Nat, k ≤ l.length ∧ i = .int .i64 k ∧ Hid (∀ (j : Nat) (x : Fw), j < k → l[j]? = some x → x.1 ≠ c)) (fun i => l.length - (intOf i).toNat)
  case atStart => exact ⟨0, Nat.zero_le _, rfl, fun j x hj => absurd hj (by omega)⟩
  case round =>
    obtain ⟨k, hk, rfl, H⟩ := hrel
    by_cases hlt : k < l.length
    · obtain ⟨x, hx⟩ : ∃ x, l[k]? = some x := ⟨_, List.getElem?_eq_getElem hlt⟩
      obtain ⟨ad, rfl, hab, c0, c1⟩ := Hr.out.two hx rfl
      have Hx := Lib.hid hx
      clear hx
      by_cases hc : x.1 = c
      · have hq := str_t hc
        have Hc : Hid (fwIdx l c = some k) := fwIdx_some.2 ⟨⟨x, Hx.out, hc⟩, H.out⟩
        clear hc
        go_wp2
        go_ret
        exact ⟨by rw [Hc.out]; rfl, rfl⟩
      · have hq := str_f hc
        have Hc := Lib.hid hc
        clear hc
        go_wp2
        go_round
        case rel =>
          refine ⟨k + 1, by omega, by go_num, fun j y hj hy => ?_⟩
          by_cases e : j = k
          · subst e
            rw [Hx.out] at hy
            injection hy with hy
            subst hy
            exact Hc.out
          · exact H.out j y (by omega) hy
        case measure => simp [intOf]; omega
    · obtain rfl : k = l.length := by omega
      go_wp2
      go_ret
      exact ⟨by rw [show fwIdx l c = none from fwIdx_none.2 fun i x hx => H.out i x (List.getElem?_eq_some_iff.1 hx).1 hx]; rfl, rfl⟩

end

section
open Go.RowKit

theorem all_small {l : List Fw} (hs : ∀ x ∈ l, x.1.size ≤ 1048576 ∧ x.2.size ≤ 1048576) {k : Nat} {x : Fw} (hx : l[k]? = some x) : x.1.size ≤ 1048576 ∧ x.2.size ≤ 1048576 := hs x (List.mem_of_getElem? hx)

set_option maxHeartbeats 1000000 in
theorem implForwardsValid (A : Option Addr) (l : List Fw) (n cap : Nat) (hl : n = l.length) (hcap : n ≤ cap) (w : World) (hn : n ≤ 16777216) (hs : ∀ x ∈ l, x.1.size ≤ 1048576 ∧ x.2.size ≤ 1048576) (h : Rd w 2 fwEnc A l) :
    Calls Tryd.prog 29 #[.slice A n cap] w fun e w' => e = .returned (.bool (fwsOk l)) ∧ Below w.heap.size w w' := by
  subst hl
  have Hr := Lib.hid h
  have Hs := Lib.hid hs
  clear h hs
  by_cases h30 : 30 < l.length
  · have Hl : Hid (fwsOk l = false) := fwsOk_long h30
    go_enter Tryd.func29, Tryd.ntmps29
    go_wp2
    go_ret
    exact ⟨ret_bool Hl.out.symm, Below.refl _ _⟩
  · have h30' : l.length ≤ 30 := by omega
    go_enter Tryd.func29, Tryd.ntmps29
    go_wp2
    go_loopw [10] (fun i wr => ∃ k : Nat, k ≤ l.length ∧ i = .int .i64 k ∧ Below w.heap.size w wr ∧ Hid (∀ j, j < k → fwOkAt l j = true)) (fun i _ => l.length - (intOf i).toNat)
    case atStart => exact ⟨0, Nat.zero_le _, rfl, Below.refl _ _, fun j hj => absurd hj (by omega)⟩
    case round =>
      obtain ⟨k, hk, rfl, hb, H⟩ := hrel
      by_cases hlt : k < l.length
      · obtain ⟨x, hx⟩ : ∃ x, l[k]? = some x := ⟨_, List.getElem?_eq_getElem hlt⟩
        obtain ⟨hs1, hs2⟩ := all_small Hs.out hx
        have hrd := Hr.out.below hb
        obtain ⟨ad, rfl, hab, c0, c1⟩ := hrd.two hx rfl
        have Hx := Lib.hid (fwOkAt_eq hx)
        have Hrd := Lib.hid hrd
        clear hx hrd
        have hcase : (codeOk x.1 && codeOk x.2 && (fwIdx (l.take k) x.1).isNone) = false ∨ (codeOk x.1 = true ∧ codeOk x.2 = true ∧ fwIdx (l.take k) x.1 = none) := by
          cases h1 : codeOk x.1 <;> cases h2 : codeOk x.2 <;> cases h3 : fwIdx (l.take k) x.1 <;> simp
        rcases hcase with hbad | ⟨h1, h2, h3⟩
        · have Hbad : Hid (fwsOk l = false) := fwsOk_bad hlt (by rw [Hx.out]; exact hbad)
          have hcase : codeOk x.1 = false ∨ (codeOk x.1 = true ∧ codeOk x.2 = false) ∨ (codeOk x.1 = true ∧ codeOk x.2 = true ∧ ∃ m : Nat, fwIdx (l.take k) x.1 = some m) := by
            revert hbad
            cases h1 : codeOk x.1 <;> cases h2 : codeOk x.2 <;> cases h3 : fwIdx (l.take k) x.1 <;> simp
          clear hbad
          rcases hcase with h1 | ⟨h1, h2⟩ | ⟨h1, h2, m, h3⟩
          all_goals
            go_wp2_with fail
            obtain ⟨W0, hW0⟩ : ∃ W0, W0 = wr.alloc (Obj.cells #[.string x.1, .string x.2] 79) := ⟨_, rfl⟩
            have hb0 : Below w.heap.size w W0 := by rw [hW0]; exact hb.alloc hb.size _
            have f0 : ∀ b : BW W0, b.w.cell? ⟨wr.heap.size, 0, none⟩ = some (.string x.1) := fun b => b.cell (by rw [hW0]; simp)
            have f1 : ∀ b : BW W0, b.w.cell? ⟨wr.heap.size, 1, none⟩ = some (.string x.2) := fun b => b.cell (by rw [hW0]; simp)
            have Hrd0 : Hid (Rd W0 2 fwEnc (some ad) (l.take k)) := by rw [hW0]; exact (Hrd.out.below ((Below.refl _ _).alloc (Nat.le_refl _) _)).take k
            rw [← hW0]
            clear hW0
            refine wp_region_bw W0 (Below.refl _ _) (by kernel_rfl) (by kernel_rfl) ?_
            repeat (go_big_quiet_step (first | (go_at_call 49; exact calls_bw_same (implCodeValid _ (by omega) _)) | (go_at_call 64; exact calls_bw (implForwardOf _ (l.take k) _ _ (by rw [List.length_take]; omega) _ _ (by omega) (BW.rd _ Hrd0.out)))))
            refine wpQuiet_nil ?_
            rintro _ ⟨b, rfl⟩
            go_wp2
            go_ret
            exact ⟨ret_bool Hbad.out.symm, hb0.trans (b.h.mono hb0.size)⟩
        · have Hok : Hid (fwOkAt l k = true) := by show fwOkAt l k = true; rw [Hx.out, h1, h2, h3]; rfl
          go_wp2_with fail
          obtain ⟨W0, hW0⟩ : ∃ W0, W0 = wr.alloc (Obj.cells #[.string x.1, .string x.2] 79) := ⟨_, rfl⟩
          have hb0 : Below w.heap.size w W0 := by rw [hW0]; exact hb.alloc hb.size _
          have f0 : ∀ b : BW W0, b.w.cell? ⟨wr.heap.size, 0, none⟩ = some (.string x.1) := fun b => b.cell (by rw [hW0]; simp)
          have f1 : ∀ b : BW W0, b.w.cell? ⟨wr.heap.size, 1, none⟩ = some (.string x.2) := fun b => b.cell (by rw [hW0]; simp)
          have Hrd0 : Hid (Rd W0 2 fwEnc (some ad) (l.take k)) := by rw [hW0]; exact (Hrd.out.below ((Below.refl _ _).alloc (Nat.le_refl _) _)).take k
          rw [← hW0]
          clear hW0
          refine wp_region_bw W0 (Below.refl _ _) (by kernel_rfl) (by kernel_rfl) ?_
          repeat (go_big_quiet_step (first | (go_at_call 49; exact calls_bw_same (implCodeValid _ (by omega) _)) | (go_at_call 64; exact calls_bw (implForwardOf _ (l.take k) _ _ (by rw [List.length_take]; omega) _ _ (by omega) (BW.rd _ Hrd0.out)))))
          refine wpQuiet_nil ?_
          rintro _ ⟨b, rfl⟩
          go_wp2
          go_roundw
          case rel => exact ⟨k + 1, by omega, by go_num, hb0.trans (b.h.mono hb0.size), fun j hj => if e : j = k then e ▸ Hok.out else H.out j (by omega)⟩
          case measure => simp [intOf]; omega
      · obtain rfl : k = l.length := by omega
        go_wp2
        go_ret
        exact ⟨ret_bool ((fwsOk_iff l).2 ⟨h30', H.out⟩).symm, hb⟩

theorem idxInt_some (m : Nat) : idxInt (some m) = (m : Int) := rfl
set_option maxHeartbeats 1000000 in
theorem specForwardsValid (A : Option Addr) (l : List Fw) (n cap : Nat) (hl : n = l.length) (w : World) (hn : n ≤ 16777216) (hs : ∀ x ∈ l, x.1.size ≤ 1048576 ∧ x.2.size ≤ 1048576) (h : Rd w 2 fwEnc A l) :
    Calls Tryd.prog 63 #[.slice A n cap] w fun e w' => e = .returned (.bool (fwsOk l)) ∧ w = w' := by
  subst hl
  have Hr := Lib.hid h
  have Hs := Lib.hid hs
  clear h hs
  go_enter Tryd.func63, Tryd.ntmps63
  go_wp2
  go_loop [3] (fun i => ∃ k : Nat, k ≤ l.length ∧ i = .int .i64 k ∧ Hid (∀ j, j < k → fwOkAt l j = true)) (fun i => l.length - (intOf i).toNat)
  case atStart => exact ⟨0, Nat.zero_le _, rfl, fun j hj => absurd hj (by omega)⟩
  case round =>
    obtain ⟨k, hk, rfl, H⟩ := hrel
    by_cases hlt : k < l.length
    · obtain ⟨x, hx⟩ : ∃ x, l[k]? = some x := ⟨_, List.getElem?_eq_getElem hlt⟩
      obtain ⟨hs1, hs2⟩ := all_small Hs.out hx
      obtain ⟨ad, rfl, hab, c0, c1⟩ := Hr.out.two hx rfl
      have Hx : Hid (fwOkAt l k = (codeOk x.1 && codeOk x.2 && decide (fwIdx l x.1 = some k))) := by show fwOkAt l k = _; rw [fwOkAt_eq hx, idx_self hx]
      have hm : ∃ m : Nat, fwIdx l x.1 = some m := by
        cases e : fwIdx l x.1 with
        | none => exact absurd rfl (fwIdx_none.1 e k x hx)
        | some m => exact ⟨m, rfl⟩
      clear hx
      obtain ⟨m, hm⟩ := hm
      have hcase : (codeOk x.1 && codeOk x.2 && decide (fwIdx l x.1 = some k)) = false ∨ (codeOk x.1 = true ∧ codeOk x.2 = true ∧ m = k) := by
        rw [hm]
        by_cases e : m = k <;> cases h1 : codeOk x.1 <;> cases h2 : codeOk x.2 <;> simp [e]
      rcases hcase with hbad | ⟨h1, h2, rfl⟩
      · have Hbad : Hid (fwsOk l = false) := fwsOk_bad hlt (by rw [Hx.out]; exact hbad)
        have hcase : codeOk x.1 = false ∨ (codeOk x.1 = true ∧ codeOk x.2 = false) ∨ (codeOk x.1 = true ∧ codeOk x.2 = true ∧ ((m : Int) != (k : Int)) = true) := by
          revert hbad
          rw [hm]
          cases h1 : codeOk x.1 <;> cases h2 : codeOk x.2 <;> simp <;> omega
        clear hbad
        rcases hcase with h1 | ⟨h1, h2⟩ | ⟨h1, h2, h3⟩
        all_goals
          go_wp2_with (first
            | (go_at_call 76; refine (specCodeValid _ (by omega) _).mono ?_; rintro e w' ⟨rfl, rfl⟩)
            | (go_at_call 89; refine (specIndex _ l _ _ rfl _ _ (by omega) Hr.out).mono ?_; rw [hm, idxInt_some]; rintro e w' ⟨rfl, rfl⟩))
          go_ret
          exact ⟨ret_bool Hbad.out.symm, rfl⟩
      · have Hok : Hid (fwOkAt l m = true) := by show fwOkAt l m = true; rw [Hx.out, h1, h2, hm]; simp
        go_wp2_with (first
            | (go_at_call 76; refine (specCodeValid _ (by omega) _).mono ?_; rintro e w' ⟨rfl, rfl⟩)
            | (go_at_call 89; refine (specIndex _ l _ _ rfl _ _ (by omega) Hr.out).mono ?_; rw [hm, idxInt_some]; rintro e w' ⟨rfl, rfl⟩))
        go_round
        case rel => exact ⟨m + 1, by omega, by go_num, fun j hj => if e : j = m then e ▸ Hok.out else H.out j (by omega)⟩
        case measure => simp [intOf]; omega
    · obtain rfl : k = l.length := by omega
      go_wp2
      go_ret
      refine ⟨ret_bool ?_, rfl⟩
      by_cases h30 : l.length ≤ 30
      · rw [(fwsOk_iff l).2 ⟨h30, H.out⟩]; simp; omega
      · rw [fwsOk_long (by omega)]; simp; omega

end

section
open Go.RowKit

theorem followN_none {l : List Fw} {f n : Nat} {c : Str} (h : fwIdx l c = none) (hf : 0 < f) : followN l f c n = some (c, n) := by
  cases f with
  | zero => omega
  | succ f => simp [followN, fwNext_none h]
theorem followN_some {l : List Fw} {f g n k : Nat} {c : Str} {x : Fw} (h : fwIdx l c = some k) (hx : l[k]? = some x) (hf : f = g + 1) : followN l f c n = followN l g x.2 (n + 1) := by
  subst hf
  simp [followN, fwNext_some h hx]

def nextVal (o : Option Str) : Value := match o with
  | none => .tuple #[.string ByteArray.empty, .bool false]
  | some c => .tuple #[.string c, .bool true]
def nextOf (l : List Fw) (c : Str) : Option Str := if fwsOk l then fwNext l c else none
def resolveOf (l : List Fw) (c : Str) : Option (Str × Nat) := if fwsOk l && codeOk c then follow l c else none

theorem resVal_form (r : Option (Str × Nat)) : ∃ (s : Str) (n : Nat) (b : Bool), resVal r = .tuple #[.string s, .int .i64 n, .bool b] := by
  cases r with
  | none => exact ⟨_, 0, _, rfl⟩
  | some p => exact ⟨_, _, _, rfl⟩

end
end Go.Proofs.YtjibjoapbjojlaaDoor
