/-
  The place and the bin of a code: the program's and the reference's.
-/
import Derived.Test.YtfilggdiljpakaaPlX1
namespace Go.Proofs.Ytfilggdiljpakaa
open Go.RowKit

def rankOf (b p : Int) (l : List Str) (c : Str) : Int := if planOk b p l then idxInt (strIdx l c) else -1

def binVal (b : Int) (l : List Str) (c : Str) (pass : Int) : Int := match strIdx l c with
  | none => -1
  | some k => (k : Int) / pw b pass.toNat % b

set_option maxHeartbeats 1000000 in
theorem implBinOf (b p : Int) (A : Option Addr) (l : List Str) (n cap : Nat) (hl : n = l.length) (c : Str) (pass : Int) (w : World) (hn : n ≤ 16777216) (h1 : 2 ≤ b) (h2 : b ≤ 16) (h3 : 0 ≤ pass) (h4 : pass ≤ 4) (h : Rd w 1 strEnc A l) :
    Calls Try.prog 64 #[.agg #[.int .i64 b, .int .i64 p, .slice A n cap], .string c, .int .i64 pass] w fun e w' => e = .returned (.int .i64 (binVal b l c pass)) ∧ Below w.heap.size w w' := by
  have Hl := Lib.hid hl
  have Hr := Lib.hid h
  have hk : ∀ k, strIdx l c = some k → k < n := fun k h => by rw [hl]; exact strIdx_lt h
  clear h hl
  have hb1 := (Below.refl w.heap.size w).alloc (Nat.le_refl _) (Obj.cells #[.int .i64 b, .int .i64 p, .slice A n cap] 35)
  have K1 := Lib.hid fun w => binPower_any b pass h1 h2 h3 h4 w
  obtain ⟨q1, q2⟩ := pw_bd b pass.toNat h1 h2 (by omega)
  cases hv : strIdx l c with
  | none =>
    have Hk : Hid (binVal b l c pass = -1) := by show binVal _ _ _ _ = _; unfold binVal; rw [hv]
    have Hv : Hid (idxInt (strIdx l c) = -1) := by show _ = _; rw [hv]; rfl
    clear hv hk K1
    go_enter Try.func64, Try.ntmps64
    go_wp2_with (go_at_call 72; refine (sliceIndex _ l _ _ Hl.out c _ hn (Hr.out.below hb1)).mono ?_; rw [Hv.out]; rintro e w1 ⟨rfl, rfl⟩)
    go_ret
    exact ⟨ret_int Hk.out.symm, hb1⟩
  | some k =>
    have hkn := hk k hv
    have Hk : Hid (binVal b l c pass = (k : Int) / pw b pass.toNat % b) := by show binVal _ _ _ _ = _; unfold binVal; rw [hv]
    have Hv : Hid (idxInt (strIdx l c) = (k : Int)) := by show _ = _; rw [hv]; rfl
    obtain ⟨q, hq⟩ : ∃ q, pw b pass.toNat = q := ⟨_, rfl⟩
    rw [hq] at K1 Hk q1 q2
    clear hv hk hq
    go_enter Try.func64, Try.ntmps64
    go_wp2_with (go_at_call 72; refine (sliceIndex _ l _ _ Hl.out c _ hn (Hr.out.below hb1)).mono ?_; rw [Hv.out]; rintro e w1 ⟨rfl, rfl⟩)
    go_quiet ((go_at_call 62; exact quiet_eq (K1.out _)))
    go_wp2
    go_ret
    exact ⟨ret_int (by
      have e1 : 0 ≤ (k : Int) / q := Int.ediv_nonneg (by omega) (by omega)
      have e2 : (k : Int) / q ≤ k := Int.ediv_le_self _ (by omega)
      rw [Hk.out, IntWalk.wrap64_in _ (by omega), Int.tmod_eq_emod_of_nonneg e1]), below_drewN hb1 _⟩
set_option maxHeartbeats 1000000 in
theorem specBinOf (b p : Int) (A : Option Addr) (l : List Str) (n cap : Nat) (hl : n = l.length) (c : Str) (pass : Int) (w : World) (hn : n ≤ 16777216) (h1 : 2 ≤ b) (h2 : b ≤ 16) (h3 : 0 ≤ pass) (h4 : pass ≤ 4) (h : Rd w 1 strEnc A l) :
    Calls Try.prog 53 #[.agg #[.int .i64 b, .int .i64 p, .slice A n cap], .string c, .int .i64 pass] w fun e w' => e = .returned (.int .i64 (binVal b l c pass)) ∧ Below w.heap.size w w' := by
  have Hl := Lib.hid hl
  have Hr := Lib.hid h
  have hk : ∀ k, strIdx l c = some k → k < n := fun k h => by rw [hl]; exact strIdx_lt h
  clear h hl
  have hb1 := (Below.refl w.heap.size w).alloc (Nat.le_refl _) (Obj.cells #[.int .i64 b, .int .i64 p, .slice A n cap] 35)
  have K1 := Lib.hid fun w => l3Power_any b pass h1 h2 h3 h4 w
  obtain ⟨q1, q2⟩ := pw_bd b pass.toNat h1 h2 (by omega)
  cases hv : strIdx l c with
  | none =>
    have Hk : Hid (binVal b l c pass = -1) := by show binVal _ _ _ _ = _; unfold binVal; rw [hv]
    have Hv : Hid (idxInt (strIdx l c) = -1) := by show _ = _; rw [hv]; rfl
    clear hv hk K1
    go_enter Try.func53, Try.ntmps53
    go_wp2_with (go_at_call 67; refine (specRank _ l _ _ Hl.out c _ hn (Hr.out.below hb1)).mono ?_; rw [Hv.out]; rintro e w1 ⟨rfl, rfl⟩)
    go_ret
    exact ⟨ret_int Hk.out.symm, hb1⟩
  | some k =>
    have hkn := hk k hv
    have Hk : Hid (binVal b l c pass = (k : Int) / pw b pass.toNat % b) := by show binVal _ _ _ _ = _; unfold binVal; rw [hv]
    have Hv : Hid (idxInt (strIdx l c) = (k : Int)) := by show _ = _; rw [hv]; rfl
    obtain ⟨q, hq⟩ : ∃ q, pw b pass.toNat = q := ⟨_, rfl⟩
    rw [hq] at K1 Hk q1 q2
    clear hv hk hq
    go_enter Try.func53, Try.ntmps53
    go_wp2_with (go_at_call 67; refine (specRank _ l _ _ Hl.out c _ hn (Hr.out.below hb1)).mono ?_; rw [Hv.out]; rintro e w1 ⟨rfl, rfl⟩)
    go_quiet ((go_at_call 66; exact quiet_eq (K1.out _)))
    go_wp2
    go_ret
    exact ⟨ret_int (by
      have e1 : 0 ≤ (k : Int) / q := Int.ediv_nonneg (by omega) (by omega)
      have e2 : (k : Int) / q ≤ k := Int.ediv_le_self _ (by omega)
      rw [Hk.out, IntWalk.wrap64_in _ (by omega), Int.tmod_eq_emod_of_nonneg e1]), below_drewN hb1 _⟩

theorem passIn (pass p : Int) (w : World) : Calls Try.prog 37 #[.int .i64 pass, .int .i64 0, .int .i64 (p - 1)] w fun e w' => e = .returned (.bool (decide (0 ≤ pass ∧ pass < p))) ∧ w = w' := by
  have := l1In_any pass 0 (p - 1) w
  rwa [show decide (0 ≤ pass ∧ pass ≤ p - 1) = decide (0 ≤ pass ∧ pass < p) from by rw [decide_eq_decide]; omega] at this

def passOk (b p : Int) (l : List Str) (pass : Int) : Bool := planOk b p l && decide (0 ≤ pass ∧ pass < p)
theorem passOk_parts {b p : Int} {l : List Str} {pass : Int} (h : passOk b p l pass = true) : (2 ≤ b ∧ b ≤ 16) ∧ 0 ≤ pass ∧ pass < p ∧ p ≤ 4 := by
  unfold passOk at h
  simp only [Bool.and_eq_true, decide_eq_true_eq] at h
  have := planOk_parts h.1
  omega
def planBinOf (b p : Int) (l : List Str) (c : Str) (pass : Int) : Int := if passOk b p l pass then binVal b l c pass else -1
end Go.Proofs.Ytfilggdiljpakaa
