/-
  Bins collected; how many letters each pass has.
-/
import Derived.Test.YtbfmohkjnjmmoaaEq
import Derived.Test.YtbfmohkjnjmmoaaPsP
import Derived.Test.YtbfmohkjnjmmoaaPlE
namespace Go.Proofs.Ytbfmohkjnjmmoaa
open Go.RowKit

theorem bucket_perm (g : Lt → Int) : ∀ {ks : List Int}, ks.Nodup → ∀ m : List Lt, (ks.flatMap fun k => m.filter fun x => decide (g x = k)).Perm (m.filter fun x => decide (g x ∈ ks))
  | [], _, m => by simp
  | a :: ks, hn, m => by
    have hn' := List.nodup_cons.1 hn
    rw [List.flatMap_cons]
    refine (List.Perm.append_left _ (bucket_perm g hn'.2 m)).trans ?_
    induction m with
    | nil => exact List.Perm.refl _
    | cons x m ih =>
      by_cases h1 : g x = a
      · have h2 : ¬ g x ∈ ks := fun h => hn'.1 (h1 ▸ h)
        rw [List.filter_cons_of_pos (by simp [h1]), List.filter_cons_of_neg (by simp [h2]), List.filter_cons_of_pos (by simp [h1])]
        exact List.Perm.cons x ih
      · by_cases h2 : g x ∈ ks
        · rw [List.filter_cons_of_neg (by simp [h1]), List.filter_cons_of_pos (by simp [h2]), List.filter_cons_of_pos (by simp [h2])]
          exact List.perm_middle.trans (List.Perm.cons x ih)
        · rw [List.filter_cons_of_neg (by simp [h1]), List.filter_cons_of_neg (by simp [h2]), List.filter_cons_of_neg (by simp [h1, h2])]
          exact ih
theorem bins_perm (B : Nat) (f : Str → Int) (m : List Lt) : (plBins B f m).flatten.Perm (m.filter fun x => decide (0 ≤ f x.2 ∧ f x.2 < (B : Int))) := by
  have hnd : ((List.range B).map fun k : Nat => (k : Int)).Nodup := by
    rw [List.nodup_iff_pairwise_ne, List.pairwise_map]
    refine List.Pairwise.imp ?_ (List.nodup_iff_pairwise_ne.1 List.nodup_range)
    intro a b h e; exact h (by omega)
  have h := bucket_perm (fun x => f x.2) hnd m
  rw [List.flatMap_map] at h
  have e : (plBins B f m).flatten = (List.range B).flatMap fun k : Nat => m.filter fun x => decide (f x.2 = (k : Int)) := flatten_map _ _
  rw [e]
  refine h.trans ?_
  rw [show (m.filter fun x => decide (f x.2 ∈ (List.range B).map fun k : Nat => (k : Int))) = m.filter fun x => decide (0 ≤ f x.2 ∧ f x.2 < (B : Int)) from ?_]
  refine List.filter_congr fun x _ => ?_
  rw [Bool.eq_iff_iff, decide_eq_true_eq, decide_eq_true_eq, List.mem_map]
  constructor
  · rintro ⟨k, hk, hk2⟩; have := List.mem_range.1 hk; omega
  · rintro ⟨h1, h2⟩; exact ⟨(f x.2).toNat, List.mem_range.2 (by omega), by omega⟩
theorem bins_batch {B : Nat} {f : Str → Int} {m : List Lt} (h : batchOk m = true) : batchOk (plBins B f m).flatten = true :=
  batch_perm (bins_perm B f m).symm (batch_sub List.filter_sublist h)
theorem pass_batch {B : Nat} {l : List Str} {m : List Lt} (h : batchOk m = true) : ∀ k, batchOk (passN B l k m) = true
  | 0 => h
  | k + 1 => bins_batch (pass_batch h k)
/-- A code is in some bin exactly if it has a rank. -/
theorem passF_bin {B : Nat} (hB : 0 < B) (l : List Str) (k : Nat) (c : Str) : decide (0 ≤ passF B l k c ∧ passF B l k c < (B : Int)) = (strIdx l c).isSome := by
  cases h : strIdx l c with
  | none => rw [passF_none h]; rfl
  | some q =>
    rw [passF_some h]
    have := Nat.mod_lt (q / B ^ k) hB
    exact decide_eq_true ⟨by omega, by omega⟩
theorem pass_perm {B : Nat} (hB : 0 < B) (l : List Str) (m : List Lt) (k : Nat) : (passN B l (k + 1) m).Perm ((passN B l k m).filter fun x => (strIdx l x.2).isSome) := by
  have h := bins_perm B (passF B l k) (passN B l k m)
  rw [show ((passN B l k m).filter fun x => decide (0 ≤ passF B l k x.2 ∧ passF B l k x.2 < (B : Int))) = (passN B l k m).filter fun x => (strIdx l x.2).isSome from List.filter_congr fun x _ => passF_bin hB l k x.2] at h
  exact h
def ranked (l : List Str) (m : List Lt) : Nat := (m.filter fun x => (strIdx l x.2).isSome).length
theorem pass_count {B : Nat} (hB : 0 < B) (l : List Str) (m : List Lt) : ∀ k, (passN B l (k + 1) m).length = ranked l m
  | 0 => (pass_perm hB l m 0).length_eq
  | k + 1 => by
    rw [(pass_perm hB l m (k + 1)).length_eq, passN_ranked]
    exact pass_count hB l m k
theorem pass_rest {B : Nat} (l : List Str) (m : List Lt) (k : Nat) : plRest (passF B l (k + 1)) (passN B l (k + 1) m) = [] := by
  rw [plRest_eq, List.filter_eq_nil_iff]
  intro x hx h
  rw [← passN_ranked] at hx
  have := (List.mem_filter.1 hx).2
  rw [this] at h
  cases h
theorem ranked_take {l : List Str} {m : List Lt} {k : Nat} {x : Lt} (hx : m[k]? = some x) : ranked l (m.take (k + 1)) = ranked l (m.take k) + if (strIdx l x.2).isSome then 1 else 0 := by
  unfold ranked
  rw [tk_succ hx, List.filter_append, List.length_append]
  cases h : (strIdx l x.2).isSome
  · rw [List.filter_cons_of_neg (by simp [h])]; rfl
  · rw [List.filter_cons_of_pos (by simp [h])]; rfl
theorem treat_eq (l : List Str) (p : Int) (m : List Lt) : ∀ k, k ≤ m.length → treatTo l p m k = (k : Int) + (p - 1) * (ranked l (m.take k) : Int)
  | 0, _ => by simp [treatTo, ranked]
  | k + 1, h => by
    obtain ⟨x, hx⟩ : ∃ x, m[k]? = some x := ⟨_, List.getElem?_eq_getElem (by omega)⟩
    rw [treatTo_succ hx rfl, treat_eq l p m k (by omega), ranked_take hx]
    unfold strHas
    cases (strIdx l x.2).isSome
    · simp; omega
    · simp only [if_true, Int.natCast_add, Int.mul_add]
      obtain ⟨z, hz⟩ : ∃ z, (p - 1) * (ranked l (m.take k) : Int) = z := ⟨_, rfl⟩
      rw [hz]
      simp; omega
theorem treat_all (l : List Str) (p : Int) (m : List Lt) : treatTo l p m m.length = (m.length : Int) + (p - 1) * (ranked l m : Int) := by
  have := treat_eq l p m m.length (Nat.le_refl _)
  rwa [List.take_length] at this
theorem ranked_le (l : List Str) (m : List Lt) : ranked l m ≤ m.length := List.length_filter_le _ _

set_option maxHeartbeats 2000000 in
set_option maxRecDepth 100000 in
/-- Bins whose letters are a batch. -/
theorem implCollectOk (A : Option Addr) (hs : List Value) (ls : List (List Lt)) (n cap : Nat) (hl : n = hs.length) (w : World) (hn : n ≤ 60) (hm : batchOk ls.flatten = true) (hsm : ∀ x ∈ ls.flatten, x.2.size ≤ 1048576) (h : BinsRd w A hs ls) :
    Calls Try.prog 40 #[.slice A n cap] w fun e w' => ∃ A' n' c', e = .returned (.tuple #[.slice A' n' c', .bool true]) ∧ Own w' w.heap.size 42 2 ltEnc (.slice A' n' c') ls.flatten ∧ Below w.heap.size w w' := by
  have Hl := Lib.hid hl
  have Hh := Lib.hid h
  have Hm := Lib.hid hm
  have Hs := Lib.hid hsm
  have hml := ((batch_iff _).1 hm).1
  clear h hl hm hsm
  go_enter Try.func40, Try.ntmps40
  go_wp2
  go_loopw [12, 4] (fun i t wr => ∃ j : Nat, j ≤ n ∧ i = .int .i64 j ∧ ∃ A1 n1 c1, t = .slice A1 n1 c1 ∧ Below w.heap.size w wr ∧ Hid (Own wr w.heap.size 42 2 ltEnc (.slice A1 n1 c1) (ls.take j).flatten)) (fun i _ _ => n - (intOf i).toNat)
  case atStart => exact ⟨0, Nat.zero_le _, rfl, none, 0, 0, rfl, Below.refl _ _, by rw [List.take_zero]; exact Own.nil_ _ _ _ _ _⟩
  case round =>
    obtain ⟨j, hj, rfl, A1, n1, c1, rfl, hb, Ho⟩ := hrel
    by_cases hlt : j < n
    · obtain ⟨l, hlj⟩ : ∃ l, ls[j]? = some l := ⟨_, List.getElem?_eq_getElem (by have := Hh.out.len; have := Hl.out; omega)⟩
      obtain ⟨A2, c2, hv, h1, h2, h3⟩ := (Hh.out.below hb).inn j l hlj
      obtain ⟨ad, rfl, hab, c0⟩ := (Hh.out.below hb).out.one hv rfl
      have hF : Hid ((ls.take (j + 1)).flatten = (ls.take j).flatten ++ l) := flat_tk hlj
      have hsz : (ls.take j).flatten.length + l.length ≤ 60 := by
        have e1 := flat_tk_len ls (j + 1)
        rw [hF.out, List.length_append] at e1
        omega
      have hH2 := Lib.hid h2
      have hH3 := Lib.hid h3
      clear hv hlj h2 h3
      obtain ⟨y, hy⟩ : ∃ y, (ls.take j).flatten = y := ⟨_, rfl⟩
      rw [hy] at Ho hF hsz
      have hny := Ho.out.len
      subst hny
      have hle : (l.length : Int) ≤ 60 - (y.length : Int) := by omega
      clear hy
      go_wp2_with (at_builtin; refine wpList_appendL (.tmp 22) (.tmp 23) 40 42 lt_info Try.underlying40 rfl (by decide) rfl rfl rfl Ho.out rfl rfl hH2.out ltEnc_len hH3.out (fun y _ => ltEnc_one y) (by omega) (by omega) hb.size ?_; intro A3 c3 w3 ho3 hg3)
      have hb3 := below_own hb hg3 Ho.out (Nat.le_refl _) hb.size
      go_roundw
      case rel => exact ⟨j + 1, by omega, by go_num, _, _, _, rfl, hb3, by rw [hF.out]; exact ho3⟩
      case measure => simp [intOf]; omega
    · obtain rfl : j = n := by omega
      have Ho2 := Ho.out
      rw [List.take_of_length_le (by have := Hh.out.len; have := Hl.out; omega)] at Ho2
      have Ho3 := Lib.hid Ho2
      clear Ho2
      go_wp2_with fail
      refine (implBatchValid A1 ls.flatten _ _ Ho3.out.len Ho3.out.cap_le _ (by have := Ho3.out.len; omega) Hs.out (Ho3.out.rd ltEnc_len)).mono ?_
      rw [Hm.out]
      rintro e w1 ⟨rfl, hb1⟩
      have Ho4 := Lib.hid (Ho3.out.below hb1)
      have hb2 := below_step hb hb1
      clear hb1
      go_wp2
      go_ret2
      exact ⟨A1, n1, c1, rfl, Ho4.out, hb2⟩

theorem BinsRet.open {bs : List (List Lt)} {k : List Lt} {ok : Bool} {w w' : World} {e : Ending} (h : BinsRet ⟨bs, k, ok⟩ w e w') :
    ∃ A n c hs A' n' c', e = .returned (.tuple #[.slice A n c, .slice A' n' c', .bool ok]) ∧ hs.length = bs.length ∧ Pool w w' (ownP 40 1 rawEnc (.slice A n c) hs :: ownP 42 2 ltEnc (.slice A' n' c') k :: innerP 42 hs bs) := h
theorem passN_mem {B : Nat} {l : List Str} {m : List Lt} : ∀ {k : Nat} {x : Lt}, x ∈ passN B l k m → x ∈ m
  | 0, _, h => h
  | k + 1, x, h => by
    obtain ⟨y, hy, hx⟩ := List.mem_flatten.1 h
    obtain ⟨i, _, rfl⟩ := List.mem_map.1 hy
    exact passN_mem (List.mem_filter.1 hx).1
/-- How many letters all passes up to one have. -/
def passSum (B : Nat) (l : List Str) (m : List Lt) : Nat → Nat
  | 0 => 0
  | k + 1 => passSum B l m k + (passN B l k m).length
theorem passSum_eq {B : Nat} (hB : 0 < B) (l : List Str) (m : List Lt) : ∀ k, passSum B l m (k + 1) = m.length + k * ranked l m
  | 0 => by simp [passSum, passN]
  | k + 1 => by
    show passSum B l m (k + 1) + (passN B l (k + 1) m).length = _
    rw [passSum_eq hB l m k, pass_count hB, Nat.add_mul]; omega
theorem passSum_le (B : Nat) (l : List Str) (m : List Lt) : ∀ k, passSum B l m k ≤ k * m.length
  | 0 => Nat.zero_le _
  | k + 1 => by
    have := passSum_le B l m k
    have := passN_len B l k m
    show passSum B l m k + (passN B l k m).length ≤ _
    rw [Nat.add_mul]; omega
theorem binR_pass {B E : Nat} {l : List Str} {m : List Lt} {k : Nat} (hp : planOk (B : Int) (E : Int) l = true) (hm : batchOk m = true) (hk : k < E) : binR (B : Int) (E : Int) l m (k : Int) = ⟨plBins B (passF B l k) m, plRest (passF B l k) m, true⟩ := by
  unfold binR passOk
  rw [hp, hm, show decide (0 ≤ (k : Int) ∧ (k : Int) < (E : Int)) = true from decide_eq_true ⟨by omega, by omega⟩]
  rfl
end Go.Proofs.Ytbfmohkjnjmmoaa
