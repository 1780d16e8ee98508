/-
  The capacity functions of the program and of the reference: both compute the same power, for all arguments in bounds; outside both answer -1.
-/
import Derived.Test.YtjibjoapbjojlaaDoorCap0
namespace Go.Proofs.YtjibjoapbjojlaaDoor
open Go.RowKit

/-- The first of some numbers that will do. -/
def firstFrom (f : Int → Bool) (i : Int) : Nat → Int
  | 0 => -1
  | n + 1 => if f i then i else firstFrom f (i + 1) n
def lbOf (c p : Int) : Int := if decide (0 ≤ c) && passesOk p then firstFrom (fun b => decide (c ≤ pw b p.toNat)) 2 15 else -1
def lpOf (c b : Int) : Int := if decide (0 ≤ c) && binsOk b then firstFrom (fun p => decide (c ≤ pw b p.toNat)) 1 4 else -1

theorem firstFrom_hit {f : Int → Bool} {i : Int} {n : Nat} (hn : 0 < n) (h : f i = true) : firstFrom f i n = i := by
  cases n with
  | zero => omega
  | succ n => simp [firstFrom, h]
theorem firstFrom_miss {f : Int → Bool} {i : Int} {n m : Nat} (hn : n = m + 1) (h : f i = false) : firstFrom f i n = firstFrom f (i + 1) m := by
  subst hn; simp [firstFrom, h]
theorem firstFrom_end {f : Int → Bool} {i : Int} {n : Nat} (hn : n = 0) : firstFrom f i n = -1 := by subst hn; rfl

theorem specLeastPasses (c p : Int) (w : World) :
    Calls Tryd.prog 87 #[.int .i64 c, .int .i64 p] w fun e w' => e = .returned (.int .i64 (lpOf c p)) ∧ w = w' := by
  cases hg : (decide (0 ≤ c) && binsOk p)
  · have Hc : Hid (lpOf c p = -1) := by show lpOf c p = -1; unfold lpOf; rw [hg]; rfl
    by_cases hc : 0 ≤ c
    · have hp : binsOk p = false := by simpa [hc] using hg
      clear hg
      go_enter Tryd.func87, Tryd.ntmps87
      go_wp2
      refine wp_loop_once ?_
      go_wp2_with (go_at_call 81; refine (l3Shape_any _ _ _).mono ?_; rw [hp, Bool.false_and]; rintro e w' ⟨rfl, rfl⟩)
      go_ret
      exact ⟨by rw [Hc.out]; rfl, rfl⟩
    · clear hg
      go_enter Tryd.func87, Tryd.ntmps87
      go_wp2
      refine wp_loop_once ?_
      go_wp2
      go_ret
      exact ⟨by rw [Hc.out]; rfl, rfl⟩
  · have Hb : Hid (lpOf c p = firstFrom (fun k => decide (c ≤ pw p k.toNat)) 1 4) := by show lpOf c p = _; unfold lpOf; rw [hg]; rfl
    obtain ⟨hc, hp⟩ : 0 ≤ c ∧ binsOk p = true := by simpa using hg
    clear hg
    have hp' := (binsOk_iff p).1 hp
    go_enter Tryd.func87, Tryd.ntmps87
    go_wp2
    go_loop [5] (fun b => ∃ k : Int, 1 ≤ k ∧ k ≤ 5 ∧ b = .int .i64 k ∧ Hid (lpOf c p = firstFrom (fun j => decide (c ≤ pw p j.toNat)) k (5 - k).toNat)) (fun b => (5 - intOf b).toNat)
    case atStart => exact ⟨1, by omega, by omega, rfl, Hb⟩
    case round =>
      obtain ⟨k, h1, h2, rfl, Hk⟩ := hrel
      clear Hb
      have Hp := Lib.hid hp
      clear hp
      by_cases hlt : k ≤ 4
      · have hbo : Hid (passesOk k = true) := (passesOk_iff k).2 ⟨h1, hlt⟩
        by_cases hge : c ≤ pw p k.toNat
        · go_wp2_with (first
            | (go_at_call 81; refine (l3Shape_any _ _ _).mono ?_; rw [Hp.out, hbo.out, Bool.and_true]; rintro e w' ⟨rfl, rfl⟩)
            | (go_at_call 82; refine (l3Power_any _ _ (by omega) (by omega) (by omega) (by omega) _).mono ?_; rintro e w' ⟨rfl, rfl⟩))
          go_ret
          exact ⟨by rw [Hk.out, firstFrom_hit (by omega) (by simpa using hge)]; rfl, rfl⟩
        · go_wp2_with (first
            | (go_at_call 81; refine (l3Shape_any _ _ _).mono ?_; rw [Hp.out, hbo.out, Bool.and_true]; rintro e w' ⟨rfl, rfl⟩)
            | (go_at_call 82; refine (l3Power_any _ _ (by omega) (by omega) (by omega) (by omega) _).mono ?_; rintro e w' ⟨rfl, rfl⟩))
          go_round
          case rel => exact ⟨k + 1, by omega, by omega, by go_num, by show lpOf c p = _; rw [Hk.out]; exact firstFrom_miss (by omega) (by simpa using hge)⟩
          case measure => simp [intOf]; omega
      · obtain rfl : k = 5 := by omega
        go_wp2_with (go_at_call 81; refine (l3Shape_any _ _ _).mono ?_; rw [show passesOk 5 = false from rfl, Bool.and_false]; rintro e w' ⟨rfl, rfl⟩)
        go_ret
        exact ⟨by rw [Hk.out, firstFrom_end (by omega)]; rfl, rfl⟩
end Go.Proofs.YtjibjoapbjojlaaDoor
