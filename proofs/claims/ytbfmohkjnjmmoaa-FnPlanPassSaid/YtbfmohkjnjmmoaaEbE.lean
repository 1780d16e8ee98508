/-
  Bins of one pass: equal bins; what stands in a bin.
-/
import Derived.Test.YtbfmohkjnjmmoaaEbD
import Derived.Test.YtbfmohkjnjmmoaaPsL
namespace Go.Proofs.Ytbfmohkjnjmmoaa
open Go.RowKit

set_option maxHeartbeats 2000000 in
set_option maxRecDepth 100000 in
theorem soBinsSame (A B : Option Addr) (hs gs : List Value) (ls : List (List Lt)) (n m capa capb : Nat) (hn : n = hs.length) (hm : m = gs.length) (w : World) (hna : n ≤ 1048576) (hnl : ∀ l ∈ ls, l.length ≤ 1048576) (ha : BinsRd w A hs ls) (hb : BinsRd w B gs ls) :
    Calls Try.prog 44 #[.slice A n capa, .slice B m capb] w fun e w' => e = .returned (.bool true) ∧ Below w.heap.size w w' := by
  obtain rfl : m = n := by rw [hm, hn, ha.len, hb.len]
  have Ha := Lib.hid ha
  have Hb := Lib.hid hb
  have Hn := Lib.hid hn
  have Hnl := Lib.hid hnl
  have h0 : ((m : Int) != (m : Int)) = false := by simp
  clear ha hb hn hm hnl
  go_enter Try.func44, Try.ntmps44
  go_wp2
  go_loopw [5] (fun i wr => ∃ k : Nat, k ≤ m ∧ i = .int .i64 k ∧ Hid (Below w.heap.size w wr)) (fun i _ => m - (intOf i).toNat)
  case atStart => exact ⟨0, Nat.zero_le _, rfl, Below.refl _ _⟩
  case round =>
    obtain ⟨k, hk, rfl, H⟩ := hrel
    by_cases hlt : k < m
    · obtain ⟨l, hlk⟩ : ∃ l, ls[k]? = some l := ⟨_, List.getElem?_eq_getElem (by have := Ha.out.len; have := Hn.out; omega)⟩
      have hll := Hnl.out l (List.mem_of_getElem? hlk)
      obtain ⟨A2, c2, hv, h1, -, h3⟩ := (Ha.out.below H.out).inn k l hlk
      obtain ⟨B2, d2, hu, h4, -, h6⟩ := (Hb.out.below H.out).inn k l hlk
      obtain ⟨ad, rfl, hab, c0⟩ := (Ha.out.below H.out).out.one hv rfl
      obtain ⟨bd, rfl, hbb, d0⟩ := (Hb.out.below H.out).out.one hu rfl
      have H3 := Lib.hid h3
      have H6 := Lib.hid h6
      have f0 : ∀ b : BW wr, b.w.cell? (ad.add k) = some (.slice A2 l.length c2) := fun b => b.cell c0
      have f1 : ∀ b : BW wr, b.w.cell? (bd.add k) = some (.slice B2 l.length d2) := fun b => b.cell d0
      have KE : Hid (∀ b : BW wr, Calls Try.prog 28 #[.slice A2 l.length c2, .slice B2 l.length d2] b.w fun e w' => e = .returned (.bool true) ∧ Below b.w.heap.size b.w w') := fun b =>
        soBatchSame A2 B2 l l.length c2 d2 rfl b.w (by omega) (b.rd H3.out) (b.rd H6.out)
      have hlt' : (k : Int) < (m : Int) := by omega
      clear hv hu hlk h3 h6
      go_wp2_with fail
      refine wp_region_bw wr (Below.refl _ _) (by kernel_rfl) (by kernel_rfl) ?_
      repeat (go_big_quiet_step ((go_at_call 28; with_reducible exact calls_bw (KE.out _))))
      refine wpQuiet_nil ?_
      rintro _ ⟨bw, rfl⟩
      have HX := Lib.hid (below_step H.out bw.h)
      clear f0 f1 KE
      generalize bw.w = w2 at *
      go_wp2
      go_roundw
      case rel => exact ⟨k + 1, by omega, by go_num, HX.out⟩
      case measure => simp [intOf]; omega
    · obtain rfl : k = m := by omega
      go_wp2
      go_ret
      exact ⟨rfl, H.out⟩

/-- The letters of a bin stand in the order of the batch. -/
theorem bin_stable {f : Str → Int} {m : List Lt} (hm : batchOk m = true) {k i : Nat} {x y : Lt} (hx : (plBin f m k)[i]? = some x) (hy : (plBin f m k)[i + 1]? = some y) : findOf m x.1 < findOf m y.1 := by
  have h1 : [x, y].Sublist (plBin f m k) := by
    obtain ⟨hi, rfl⟩ := List.getElem?_eq_some_iff.1 hx
    obtain ⟨hi', rfl⟩ := List.getElem?_eq_some_iff.1 hy
    have h2 := List.drop_sublist i (plBin f m k)
    rw [List.drop_eq_getElem_cons hi, List.drop_eq_getElem_cons hi'] at h2
    exact (List.Sublist.cons_cons _ (List.Sublist.cons_cons _ (List.nil_sublist _))).trans h2
  have h3 := h1.trans List.filter_sublist
  have h4 : m.Pairwise fun a b => findOf m a.1 < findOf m b.1 := by
    rw [List.pairwise_iff_getElem]
    intro i j hi hj hlt
    rw [find_at hm (List.getElem?_eq_getElem hi), find_at hm (List.getElem?_eq_getElem hj)]
    omega
  have h5 := h4.sublist h3
  rw [List.pairwise_cons] at h5
  exact h5.1 y (by simp)
theorem bin_val {f : Str → Int} {m : List Lt} {k i : Nat} {x : Lt} (hx : (plBin f m k)[i]? = some x) : f x.2 = (k : Int) := of_decide_eq_true (List.mem_filter.1 (List.mem_of_getElem? hx)).2
theorem rest_val {f : Str → Int} {m : List Lt} {i : Nat} {x : Lt} (hx : (plRest f m)[i]? = some x) : f x.2 < 0 := of_decide_eq_true (List.mem_filter.1 (List.mem_of_getElem? hx)).2
/-- All letters are in a bin, or left. -/
theorem bins_all {B : Nat} {f : Str → Int} (hf : ∀ c, f c < (B : Int)) (m : List Lt) : (plRest f m).length + (plBins B f m).flatten.length = m.length := by
  rw [(bins_perm B f m).length_eq]
  have e1 : (m.filter fun x => decide (0 ≤ f x.2 ∧ f x.2 < (B : Int))) = m.filter fun x => !decide (f x.2 < 0) := List.filter_congr fun x _ => by
    have := hf x.2
    by_cases h : f x.2 < 0
    · rw [decide_eq_true h, decide_eq_false (by omega)]; rfl
    · rw [decide_eq_false h, decide_eq_true (by omega)]; rfl
  rw [e1]
  have := (List.filter_append_perm (fun x : Lt => decide (f x.2 < 0)) m).length_eq
  rw [List.length_append] at this
  exact this
end Go.Proofs.Ytbfmohkjnjmmoaa
