/-
  The text of letters: the reference's.
-/
import Derived.Test.YtjibjoapbjojlaaDoorTp1
import Derived.Test.YtjibjoapbjojlaaDoorFmA
import Derived.Test.YtjibjoapbjojlaaDoorPlB
namespace Go.Proofs.YtjibjoapbjojlaaDoor
open Go.RowKit

theorem ltPiece_eq (x : Lt) : ltPiece x = decS x.1 ++ (⟨#[58]⟩ : Str) ++ x.2 := rfl
theorem decS_size4 {b : Int} (h0 : 0 ≤ b) (h1 : b ≤ 9999) : (decS b).size ≤ 4 ∧ 1 ≤ (decS b).size := by
  obtain ⟨u, rfl⟩ := Int.eq_ofNat_of_zero_le h0
  rw [decS_nat, strOf_size]
  have := dec_facts 3 u (by omega)
  exact ⟨this.2.2.2.1, this.2.2.1⟩
theorem ltPiece_size {l : List Lt} (h : batchOk l = true) {x : Lt} (hx : x ∈ l) : 1 ≤ (ltPiece x).size ∧ (ltPiece x).size ≤ 12 := by
  obtain ⟨h1, h2, h3⟩ := batch_id h hx
  have := decS_size4 (b := x.1) (by omega) h2
  rw [ltPiece_eq, ByteArray.size_append, ByteArray.size_append, codeOk_size h3, show (⟨#[58]⟩ : Str).size = 1 from rfl]
  omega
theorem fmtB_join {l : List Lt} (h : batchOk l = true) : fmtB l = if (joinL (l.map ltPiece)).size = 0 then cDash else joinL (l.map ltPiece) := by
  unfold fmtB
  rw [h, if_pos rfl]
  by_cases h0 : l = []
  · subst h0; rw [if_pos rfl, List.map_nil, joinL_nil]; rfl
  · rw [if_neg h0, if_neg]
    intro h2
    obtain ⟨x, r, rfl⟩ := List.exists_cons_of_ne_nil h0
    have h3 := joinL_data ((x :: r).map ltPiece)
    rw [List.map_cons, List.map_cons, Lib.join_cons] at h3
    have h4 : (joinL ((x :: r).map ltPiece)).data.toList.length = 0 := h2
    rw [List.map_cons] at h4
    rw [h3, List.length_append] at h4
    have h5 := (ltPiece_size h (List.mem_cons_self)).1
    have h6 : (ltPiece x).data.toList.length = (ltPiece x).size := rfl
    omega

set_option maxHeartbeats 2000000 in
set_option maxRecDepth 100000 in
theorem dashC (out : Str) (w : World) : Calls Tryd.prog 48 #[.string out] w fun e w' => e = .returned (.string (if out.size = 0 then cDash else out)) ∧ w = w' := by
  by_cases hz : out.size = 0
  · have e2 : out = ByteArray.empty := str_eq' (by
      have : out.data.toList.length = 0 := hz
      rw [List.eq_nil_of_length_eq_zero this]; rfl)
    rw [if_pos hz, e2]
    have hq := str_t (a := (⟨#[]⟩ : Str)) rfl
    go_enter Tryd.func48, Tryd.ntmps48
    go_wp2
    go_ret
    exact ⟨rfl, rfl⟩
  · have hq : (ByteArray.toList out).isEmpty = false := by
      have := str_f (a := out) (b := (⟨#[]⟩ : Str)) (by rintro rfl; exact hz rfl)
      simpa using this
    rw [if_neg hz]
    clear hz
    go_enter Tryd.func48, Tryd.ntmps48
    go_wp2
    go_ret
    exact ⟨rfl, rfl⟩
end Go.Proofs.YtjibjoapbjojlaaDoor
