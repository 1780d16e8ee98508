/-
  The laws' marks on plans and on letters.
-/
import Derived.Test.YtnfggnpemnebcaaPlU
import Derived.Test.YtnfggnpemnebcaaMkS
namespace Go.Proofs.Ytnfggnpemnebcaa
open Go.RowKit

set_option maxHeartbeats 1000000 in
theorem lawMarkPlan (b p : Int) (A : Option Addr) (l : List Str) (n cap k base : Nat) (w : World) (hn : n ≤ 16777216) (hk0 : 1 ≤ k) (hk : k ≤ 16777216) (h : Own w base 9 1 strEnc (.slice A n cap) l) :
    Calls Try.prog 14 #[.agg #[.int .i64 b, .int .i64 p, .slice A n cap], .int .i64 k] w fun e w' => e = .returned (.int .i64 (k + n : Nat)) ∧ Own w' base 9 1 strEnc (.slice A n cap) (strMks k n) ∧ w.grownBy w' (Value.slice A n cap).ownBlock := by
  have Ho := Lib.hid h
  clear h
  go_enter Try.func14, Try.ntmps14
  go_wp2_with fail
  refine (lawMarkStringS A l n cap k base _ hn hk0 hk (Ho.out.alloc _)).mono ?_
  rintro e w1 ⟨rfl, ho1, hg1⟩
  have Ho1 := Lib.hid ho1
  have Hg1 := Lib.hid hg1
  clear ho1 hg1
  go_wp2
  go_ret
  exact ⟨rfl, Ho1.out, grown_trans (below_grown ((Below.refl _ _).alloc (Nat.le_refl _) _) _) Hg1.out⟩

set_option maxHeartbeats 1000000 in
theorem lawHeldPlan (b p : Int) (A : Option Addr) (n cap k : Nat) (w : World) (hn : n ≤ 16777216) (hk0 : 1 ≤ k) (hk : k ≤ 16777216) (h : Rd w 1 strEnc A (strMks k n)) :
    Calls Try.prog 15 #[.agg #[.int .i64 b, .int .i64 p, .slice A n cap], .int .i64 k] w fun e w' => e = .returned (.int .i64 (k + n : Nat)) ∧ Below w.heap.size w w' := by
  have Hr := Lib.hid h
  clear h
  have hb1 := (Below.refl w.heap.size w).alloc (Nat.le_refl _) (Obj.cells #[.int .i64 b, .int .i64 p, .slice A n cap] 26)
  go_enter Try.func15, Try.ntmps15
  go_wp2_with fail
  refine (lawHeldStringS A n cap k _ hn hk0 hk (Hr.out.below hb1)).mono ?_
  rintro e w1 ⟨rfl, hbw⟩
  go_wp2
  go_ret
  exact ⟨rfl, below_step hb1 hbw⟩

/-- The marks of letter i. -/
def ltMk (k : Nat) (i : Nat) : Lt := (((k + 2 * i : Nat) : Int), mkTxt (k + 2 * i + 1))
def ltMks (k : Nat) (n : Nat) : List Lt := (List.range n).map (ltMk k)
theorem ltMks_len (k n : Nat) : (ltMks k n).length = n := by simp [ltMks]
theorem ltMks_at {k n i : Nat} (h : i < n) : (ltMks k n)[i]? = some (ltMk k i) := by simp [ltMks, h]
theorem ltMks_step {k n i : Nat} {l : List Lt} (hl : l.length = n) (h : i < n) : (ltMks k i ++ l.drop i).set i (ltMk k i) = ltMks k (i + 1) ++ l.drop (i + 1) := by
  rw [List.set_append_right _ _ (by rw [ltMks_len]; omega), ltMks_len, Nat.sub_self, List.drop_eq_getElem_cons (by omega), List.set_cons_zero]
  simp [ltMks, List.range_succ]
end Go.Proofs.Ytnfggnpemnebcaa
