/-
  A batch on a plan: in order? how often handled?
-/
import Derived.Test.YtfilggdiljpakaaPlT
import Derived.Test.YtfilggdiljpakaaPlB
namespace Go.Proofs.Ytfilggdiljpakaa
open Go.RowKit

def readyOk (b p : Int) (l : List Str) (m : List Lt) : Bool := planOk b p l && batchOk m

set_option maxHeartbeats 1000000 in
theorem specReady (b p : Int) (A B : Option Addr) (l : List Str) (m : List Lt) (n cap k capm : Nat) (hl : n = l.length) (hk : k = m.length) (w : World) (hn : n ≤ 16777216) (hkn : k ≤ 16777216) (hs : ∀ x ∈ l, x.size ≤ 1048576) (hsm : ∀ x ∈ m, x.2.size ≤ 1048576) (h : Rd w 1 strEnc A l) (hm : Rd w 2 ltEnc B m) :
    Calls Try.prog 29 #[.agg #[.int .i64 b, .int .i64 p, .slice A n cap], .slice B k capm] w fun e w' => e = .returned (.bool (readyOk b p l m)) ∧ Below w.heap.size w w' := by
  have Hl := Lib.hid hl
  have Hk := Lib.hid hk
  have Hr := Lib.hid h
  have Hm := Lib.hid hm
  have Hs := Lib.hid hs
  have Hsm := Lib.hid hsm
  clear h hs hl hk hm hsm
  have hb1 := (Below.refl w.heap.size w).alloc (Nat.le_refl _) (Obj.cells #[.int .i64 b, .int .i64 p, .slice A n cap] 35)
  cases hv : planOk b p l
  all_goals
    have Hd : Hid (readyOk b p l m = (planOk b p l && batchOk m)) := rfl
    go_enter Try.func29, Try.ntmps29
    go_wp2_with fail
    refine (specPlanValid b p A l _ _ Hl.out _ hn Hs.out (Hr.out.below hb1)).mono ?_
    rw [hv]
    rintro e w1 ⟨rfl, hbw⟩
    have hb2 := below_step hb1 hbw
    have Hm2 := Lib.hid (Hm.out.below hb2)
    clear hbw
  · go_wp2
    go_ret
    exact ⟨ret_bool (by rw [Hd.out, hv]; rfl), hb2⟩
  · go_wp2_with (go_at_call 21; refine (specBatchValid _ m _ _ Hk.out _ hkn Hsm.out Hm2.out).mono ?_; rintro e w2 ⟨rfl, hbx⟩)
    go_ret
    exact ⟨ret_bool (by rw [Hd.out, hv]; rfl), below_step hb2 hbx⟩

/-- Do the places of letters never fall? -/
def ordOk (l : List Str) : Int → List Lt → Bool
  | _, [] => true
  | last, x :: r => if idxInt (strIdx l x.2) < last then false else ordOk l (idxInt (strIdx l x.2)) r
def inOrd (b p : Int) (l : List Str) (m : List Lt) : Bool := readyOk b p l m && ordOk l 0 m
theorem ord_at {l : List Str} {m : List Lt} {k : Nat} {x : Lt} {v last : Int} (hx : m[k]? = some x) (hv : idxInt (strIdx l x.2) = v) : ordOk l last (m.drop k) = if v < last then false else ordOk l v (m.drop (k + 1)) := by
  obtain ⟨hk, rfl⟩ := List.getElem?_eq_some_iff.1 hx
  rw [List.drop_eq_getElem_cons hk]
  show (if idxInt (strIdx l m[k].2) < last then false else _) = _
  rw [hv]
theorem ord_end {l : List Str} {m : List Lt} {last : Int} {k : Nat} (h : k = m.length) : ordOk l last (m.drop k) = true := by
  rw [h, List.drop_length]; rfl
end Go.Proofs.Ytfilggdiljpakaa
