/-
  A round turned: plain laws on plans, batches and all passes. No function of the program is named here.
-/
import Derived.Test.YtbfmohkjnjmmoaaEbB
namespace Go.Proofs.Ytbfmohkjnjmmoaa
open Go.RowKit

theorem cds_iff (l : List Str) : cdsOk l = true ↔ (∀ x ∈ l, codeOk x = true) ∧ l.Nodup := by
  constructor
  · intro h
    refine ⟨fun x hx => ?_, cdsOk_nodup h⟩
    obtain ⟨i, hi, rfl⟩ := List.getElem_of_mem hx
    have := (cdsOk_iff l).1 h i hi
    rw [cdOkAt_eq (List.getElem?_eq_getElem hi), Bool.and_eq_true] at this
    exact this.1
  · rintro ⟨h1, h2⟩
    refine (cdsOk_iff l).2 fun i hi => ?_
    rw [cdOkAt_eq (List.getElem?_eq_getElem hi), Bool.and_eq_true, Option.isNone_iff_eq_none]
    refine ⟨h1 _ (List.getElem_mem hi), strIdx_none.2 fun j x hx e => ?_⟩
    rw [List.getElem?_take] at hx
    split at hx
    · rename_i hji
      obtain ⟨hj, rfl⟩ := List.getElem?_eq_some_iff.1 hx
      rw [List.nodup_iff_pairwise_ne, List.pairwise_iff_getElem] at h2
      exact h2 j i hj hi hji e
    · cases hx
theorem plan_reverse {b p : Int} {l : List Str} (h : planOk b p l = true) : planOk b p l.reverse = true := by
  have hc : cdsOk l.reverse = true := by
    have := (cds_iff l).1 (planOk_parts h).2.2.2.2
    exact (cds_iff _).2 ⟨fun x hx => this.1 x (List.mem_reverse.1 hx), (List.reverse_perm l).nodup_iff.2 this.2⟩
  unfold planOk at h ⊢
  rw [List.length_reverse, hc]
  simp only [Bool.and_eq_true] at h ⊢
  first | exact ⟨h.1, rfl⟩ | exact h.1 | exact ⟨h.1, trivial⟩
theorem plan_nodup {b p : Int} {l : List Str} (h : planOk b p l = true) : l.Nodup := cdsOk_nodup (planOk_parts h).2.2.2.2
/-- What all passes of a plan leave. -/
theorem run_round {b p : Int} {l : List Str} {m : List Lt} (h : planOk b p l = true) (hm : batchOk m = true) : runR b p l m = ⟨roundOf l m, m.filter fun x => !(strIdx l x.2).isSome, true⟩ := by
  obtain ⟨⟨hb1, hb2⟩, ⟨hp1, hp2⟩, -, hcap, -⟩ := planOk_parts h
  obtain ⟨B, rfl⟩ : ∃ B : Nat, b = B := ⟨b.toNat, by omega⟩
  obtain ⟨E, rfl⟩ : ∃ E : Nat, p = E := ⟨p.toNat, by omega⟩
  rw [Int.toNat_natCast, pw_nat] at hcap
  unfold runR
  rw [h, hm]
  simp only [Bool.and_self, if_true, Int.toNat_natCast]
  rw [passN_round (by omega) (plan_nodup h) (by omega) (by omega) m]
  obtain ⟨k, rfl⟩ : ∃ k, E = k + 1 := ⟨E - 1, by omega⟩
  rw [outN_eq (by omega), plRest_eq]
theorem run_bad {b p : Int} {l : List Str} {m : List Lt} (h : batchOk m = false) : runR b p l m = noLtR := by
  unfold runR
  rw [h, Bool.and_false]; rfl
theorem run_turn {b p : Int} {l : List Str} {m : List Lt} (h : planOk b p l = true) : (runR b p l.reverse m.reverse).f = (runR b p l m).f.reverse := by
  cases hm : batchOk m
  · have hm' : batchOk m.reverse = false := by
      cases hr : batchOk m.reverse
      · rfl
      · rw [batch_perm (List.reverse_perm m) hr] at hm; cases hm
    rw [run_bad hm, run_bad hm']; rfl
  · rw [run_round h hm, run_round (plan_reverse h) (batch_perm (List.reverse_perm m).symm hm)]
    exact round_reverse l m
theorem turn_ok {b p : Int} {l : List Str} (h : planOk b p l = true) : turnR b p l = ⟨b, p, l.reverse, true⟩ := by unfold turnR; rw [h]; rfl
theorem turn_bad {b p : Int} {l : List Str} (h : planOk b p l = false) : turnR b p l = noPlR := by unfold turnR; rw [h]; rfl
theorem own_raw {α : Type} {w : World} {base n c : Nat} {e : TypeId} {size : Nat} {enc : α → List Value} {A : Option Addr} {l : List α} (h : Own w base e size enc (.slice A n c) l) : w.ownsRow base e size (.slice A n c) n (l.flatMap enc) := by
  have hn := h.len
  unfold Own at h
  rw [← hn] at h
  exact h
theorem PlRet.open {b p : Int} {l : List Str} {ok : Bool} {w w' : World} {e : Ending} (h : PlRet ⟨b, p, l, ok⟩ w e w') :
    ∃ A k cap, e = .returned (.tuple #[.agg #[.int .i64 b, .int .i64 p, .slice A k cap], .bool ok]) ∧ Own w' w.heap.size 9 1 strEnc (.slice A k cap) l ∧ Below w.heap.size w w' := h
end Go.Proofs.Ytbfmohkjnjmmoaa
