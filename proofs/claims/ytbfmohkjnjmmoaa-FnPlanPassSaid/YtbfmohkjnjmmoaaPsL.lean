/-
  The loads of bins: the program's and the reference's.
-/
import Derived.Test.YtbfmohkjnjmmoaaPsI
namespace Go.Proofs.Ytbfmohkjnjmmoaa
open Go.RowKit

def loadsOf (ls : List (List Lt)) : List Int := ls.map fun y => (y.length : Int)
theorem loads_at {ls : List (List Lt)} {k : Nat} {l : List Lt} (h : ls[k]? = some l) : (loadsOf ls)[k]? = some (l.length : Int) := by simp [loadsOf, h]
theorem loads_len (ls : List (List Lt)) : (loadsOf ls).length = ls.length := by simp [loadsOf]
def loadsR (b p : Int) (l : List Str) (m : List Lt) (pass : Int) : List Int := loadsOf (binR b p l m pass).b
theorem loadsR_len (b p : Int) (l : List Str) (m : List Lt) (pass : Int) : (loadsR b p l m pass).length ≤ 1048576 := by
  unfold loadsR
  rw [loads_len]; exact (binR_len b p l m pass).1
theorem binR_no {b p : Int} {l : List Str} {m : List Lt} {pass : Int} (h : (binR b p l m pass).ok = false) : (binR b p l m pass).b = [] := by
  unfold binR at h ⊢
  split
  · rename_i h2; rw [if_pos h2] at h; cases h
  · rfl
theorem int_cells {w : World} {t : TypeId} (x : Int) {g : Nat} (hg : g = w.heap.size) : ∀ (j : Nat) (u : Value), (intEnc x)[j]? = some u → (w.alloc (.cells #[.int .i64 x] t)).cell? (Addr.add ⟨g, 0, none⟩ j) = some u := by
  intro j u hu
  match j, hu with
  | 0, hu => simp [intEnc] at hu; subst hu; exact World.cell?_alloc_at _ _ _ 0 hg
theorem int_one (x : Int) : ∀ u ∈ intEnc x, u.oneCell' = true := by
  intro u hu
  simp [intEnc] at hu
  subst hu; rfl
/-- A list of numbers of its own is returned. -/
def InRes (w w' : World) (l : List Int) (e : Ending) : Prop := ∃ A n c, e = .returned (.slice A n c) ∧ Own w' w.heap.size 3 1 intEnc (.slice A n c) l ∧ Below w.heap.size w w'

set_option maxHeartbeats 2000000 in
set_option maxRecDepth 100000 in
theorem implBinLoads (b p : Int) (A D : Option Addr) (l : List Str) (m : List Lt) (n cap k capm : Nat) (hl : n = l.length) (hk : k = m.length) (hcap : n ≤ cap) (hcapm : k ≤ capm) (pass : Int) (w : World) (hn : n ≤ 1048576) (hkn : k ≤ 1048576) (hs : ∀ x ∈ l, x.size ≤ 1048576) (hsm : ∀ x ∈ m, x.2.size ≤ 1048576) (h : Rd w 1 strEnc A l) (hm : Rd w 2 ltEnc D m) :
    Calls Try.prog 45 #[.agg #[.int .i64 b, .int .i64 p, .slice A n cap], .slice D k capm, .int .i64 pass] w fun e w' => InRes w w' (loadsR b p l m pass) e := by
  have Hl := Lib.hid hl
  have Hk := Lib.hid hk
  have Hr := Lib.hid h
  have Hm := Lib.hid hm
  have Hs := Lib.hid hs
  have Hsm := Lib.hid hsm
  clear h hs hl hk hm hsm
  obtain ⟨i0, hi, hz0, hz1, hz2⟩ := info_parts int_info
  have H : Hid (Pool w (w.alloc (Obj.cells #[.int .i64 b, .int .i64 p, .slice A n cap] 25)) [boxP w.heap.size (.int .i64 b) (.int .i64 p) (.slice A n cap)]) := (Pool.nil_ w).addBox rfl _ _ _ _
  have hRl := binR_len b p l m pass
  have hRn := fun h => binR_no (b := b) (p := p) (l := l) (m := m) (pass := pass) h
  obtain ⟨R, hR⟩ : ∃ R, binR b p l m pass = R := ⟨_, rfl⟩
  have HL : Hid (loadsR b p l m pass = loadsOf R.b) := by show _ = _; unfold loadsR; rw [hR]
  rw [hR] at hRl hRn
  have HR := Lib.hid hR
  have HRl := Lib.hid hRl
  have HRn := Lib.hid hRn
  clear hR hRl hRn
  cases hok : R.ok
  · go_enter Try.func45, Try.ntmps45
    go_wp2_with fail
    refine (implPlanPass b p A D l m _ _ _ _ Hl.out Hk.out hcap hcapm pass _ hn hkn Hs.out Hsm.out (Hr.out.below H.out.below) (Hm.out.below H.out.below)).mono ?_
    rw [HR.out]
    rintro e w1 ⟨A1, n1, c1, hs, A2, n2, c2, rfl, hlen, hp⟩
    have H := Lib.hid (H.out.join hp).below
    clear hp hlen
    go_wp2
    go_ret
    rw [HL.out, HRn.out hok]
    exact ⟨none, 0, 0, rfl, Own.nil_ _ _ _ _ _, H.out⟩
  · go_enter Try.func45, Try.ntmps45
    go_wp2_with fail
    refine (implPlanPass b p A D l m _ _ _ _ Hl.out Hk.out hcap hcapm pass _ hn hkn Hs.out Hsm.out (Hr.out.below H.out.below) (Hm.out.below H.out.below)).mono ?_
    rw [HR.out]
    rintro e w1 ⟨A1, n1, c1, hs, A2, n2, c2, rfl, hlen, hp⟩
    have HB : Hid (BinsRd w1 A1 hs R.b) := hp.binsRd (T := 42) (fun p hp => by simp [hp]) hlen
    have hn1 : n1 = hs.length := (hp.own 0 rfl).len
    have Hn1 : Hid (n1 = R.b.length) := hn1.trans hlen
    have H := Lib.hid (H.out.join hp).below
    have hn1b : n1 ≤ 1048576 := by have := HRl.out.1; have := Hn1.out; omega
    clear hp hlen hn1
    go_wp2_with (at_make; refine wpList_make_full _ rfl _ _ 66 rfl w1.heap.size 3 i0 _ 1 Try.underlying66 hi hz0 hz1 .i64 .i64 _ _ n1 rfl rfl rfl rfl (by rw [hz2]; omega) (by unfold maxLen; omega) (Nat.le_refl _) ?_; intro w2 hown2 hg2)
    have hb2 : Below w1.heap.size w1 w2 := grown_below hg2 (fun _ e => by cases e)
    have Hown : Hid (Own w2 w1.heap.size 3 1 intEnc (.slice (some ⟨w1.heap.size, 0, none⟩) n1 n1) (List.replicate n1 (0 : Int))) := by
      show Own _ _ _ _ _ _ _
      unfold Own
      rw [List.length_replicate, flat_replicate, show intEnc 0 = [.int .i64 0] from rfl, ← made1 (.int .i64 0) n1]
      exact hown2
    have Hb2 := Lib.hid hb2
    clear hb2 hown2 hg2
    go_wp2_with fail
    go_loopw [28] (fun i wr => ∃ j : Nat, j ≤ n1 ∧ i = .int .i64 j ∧ Hid (Below w1.heap.size w1 wr) ∧ Hid (Own wr w1.heap.size 3 1 intEnc (.slice (some ⟨w1.heap.size, 0, none⟩) n1 n1) ((loadsOf R.b).take j ++ List.replicate (n1 - j) (0 : Int)))) (fun i _ => n1 - (intOf i).toNat)
    case atStart => exact ⟨0, Nat.zero_le _, rfl, Hb2.out, by rw [List.take_zero, List.nil_append, Nat.sub_zero]; exact Hown.out⟩
    case round =>
      clear Hown Hb2
      obtain ⟨j, hj, rfl, Hb, Ho⟩ := hrel
      by_cases hlt : j < n1
      · obtain ⟨y, hy⟩ : ∃ y, R.b[j]? = some y := ⟨_, List.getElem?_eq_getElem (by have := Hn1.out; omega)⟩
        obtain ⟨A3, c3, hv, h1, -, -⟩ := (HB.out.below Hb.out).inn j y hy
        obtain ⟨ad, rfl, hab, c0⟩ := (HB.out.below Hb.out).out.one hv rfl
        have hll := loads_at hy
        have hLl : (loadsOf R.b).length = n1 := by rw [loads_len]; exact Hn1.out.symm
        have hz : ((loadsOf R.b).take j ++ List.replicate (n1 - j) (0 : Int))[j]? = some 0 := by
          rw [List.getElem?_append_right (by rw [List.length_take]; omega), List.getElem?_replicate, if_pos (by rw [List.length_take]; omega)]
        have hlen : n1 = ((loadsOf R.b).take j ++ List.replicate (n1 - j) (0 : Int)).length := by rw [List.length_append, List.length_take, List.length_replicate]; omega
        have Hset : Hid (((loadsOf R.b).take j ++ List.replicate (n1 - j) (0 : Int)).set j (y.length : Int) = (loadsOf R.b).take (j + 1) ++ List.replicate (n1 - (j + 1)) (0 : Int)) := by
          show _ = _
          have := take_set_rep (z := (0 : Int)) hll
          rw [hLl] at this
          exact this
        obtain ⟨q0, q1⟩ := Ho.out.cell2 intEnc_len hlen hz (j := 0) (by omega)
        rw [show (intEnc 0)[0]? = some (.int .i64 0) from rfl] at q0
        simp only [Nat.add_zero, Nat.mul_one] at q0 q1
        have hyl : y.length ≤ 1048576 := by have := HRl.out.2.1 y (List.mem_of_getElem? hy); have := Hk.out; omega
        have Hlen := Lib.hid hlen
        have hlt' : (j : Int) < (n1 : Int) := by omega
        clear hlen hz hll hLl hy hv
        go_wp2
        go_roundw
        case rel =>
          refine ⟨j + 1, by omega, by go_num, Hb.out.setCell (Nat.le_refl _) _, ?_⟩
          have := Ho.out.set1 intEnc_len Hlen.out hlt (y := (y.length : Int)) rfl
          rw [Hset.out] at this
          exact this
        case measure => simp [intOf]; omega
      · obtain rfl : j = n1 := by omega
        go_wp2
        go_ret
        rw [HL.out]
        have := Ho.out
        rw [Nat.sub_self, List.replicate_zero, List.append_nil, List.take_of_length_le (by rw [loads_len]; exact Nat.le_of_eq Hn1.out.symm)] at this
        exact ⟨_, j, j, rfl, this.lower H.out.size, below_step H.out Hb.out⟩
end Go.Proofs.Ytbfmohkjnjmmoaa
