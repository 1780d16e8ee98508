/-
  All passes: the program's and the reference's.
-/
import Derived.Test.YtjibjoapbjojlaaPsB
import Derived.Test.YtjibjoapbjojlaaPlJb
import Derived.Test.YtjibjoapbjojlaaPlD
import Derived.Deep.RegionHeld3
namespace Go.Proofs.Ytjibjoapbjojlaa
open Go.RowKit

def passF (B : Nat) (l : List Str) (k : Nat) : Str → Int := fun c => binVal (B : Int) l c (k : Int)
def passN (B : Nat) (l : List Str) : Nat → List Lt → List Lt
  | 0, m => m
  | k + 1, m => (plBins B (passF B l k) (passN B l k m)).flatten
def outN (B : Nat) (l : List Str) : Nat → List Lt → List Lt
  | 0, _ => []
  | k + 1, m => outN B l k m ++ plRest (passF B l k) (passN B l k m)
theorem passN_len (B : Nat) (l : List Str) : ∀ (k : Nat) (m : List Lt), (passN B l k m).length ≤ m.length
  | 0, _ => Nat.le_refl _
  | k + 1, m => Nat.le_trans (plFlat_len _ _) (passN_len B l k m)
theorem passN_rank {B : Nat} {l : List Str} {k : Nat} {m : List Lt} {x : Lt} (h : x ∈ passN B l (k + 1) m) : strIdx l x.2 ≠ none := by
  obtain ⟨y, hy, hx⟩ := List.mem_flatten.1 h
  obtain ⟨i, _, rfl⟩ := List.mem_map.1 hy
  have h2 := (List.mem_filter.1 hx).2
  intro hn
  have h3 := of_decide_eq_true h2
  unfold passF binVal at h3
  rw [hn] at h3
  have h4 : (-1 : Int) = (i : Int) := h3
  omega
theorem outN_eq {B : Nat} (hB : 2 ≤ B) (l : List Str) (m : List Lt) : ∀ k, outN B l (k + 1) m = plRest (passF B l 0) m
  | 0 => by simp [outN, passN]
  | k + 1 => by
    show outN B l (k + 1) m ++ plRest (passF B l (k + 1)) (passN B l (k + 1) m) = _
    rw [outN_eq hB l m k]
    have : plRest (passF B l (k + 1)) (passN B l (k + 1) m) = [] := by
      unfold plRest
      rw [List.filter_eq_nil_iff]
      intro x hx
      have hr := passN_rank hx
      have hs : ¬ passF B l (k + 1) x.2 < 0 := by
        rcases binVal_sign (b := (B : Int)) (by omega) l x.2 ((k + 1 : Nat) : Int) with ⟨_, h⟩ | ⟨q, _, h, _⟩
        · exact absurd h hr
        · unfold passF; rw [h]; omega
      simpa using hs
    rw [this, List.append_nil]
theorem outN_len {B : Nat} (hB : 2 ≤ B) (l : List Str) (m : List Lt) : ∀ k, (outN B l k m).length ≤ m.length
  | 0 => Nat.zero_le _
  | k + 1 => by rw [outN_eq hB]; exact plRest_len _ _

theorem LtRet2.of_pool {w w' : World} {A A' : Option Addr} {n c n' c' : Nat} {f k : List Lt} {rest : List Piece} (h : Pool w w' (ownP 39 2 ltEnc (.slice A n c) f :: ownP 39 2 ltEnc (.slice A' n' c') k :: rest)) :
    LtRet2 ⟨f, k, true⟩ w (.returned (.tuple #[.slice A n c, .slice A' n' c', .bool true])) w' :=
  ⟨A, n, c, A', n', c', rfl, h.res 0 rfl, h.res 1 rfl, fun g e e' => (List.pairwise_cons.1 h.apart).1 (ownP 39 2 ltEnc (.slice A' n' c') k) (by simp) g (mem_own.2 e) (mem_own.2 e'), h.below⟩

def runR (b p : Int) (l : List Str) (m : List Lt) : LtR := if planOk b p l && batchOk m then ⟨passN b.toNat l p.toNat m, outN b.toNat l p.toNat m, true⟩ else noLtR
theorem runR_len {b p : Int} {l : List Str} {m : List Lt} (hm : m.length ≤ 1048576) : (runR b p l m).f.length ≤ 1048576 ∧ (runR b p l m).k.length ≤ 1048576 := by
  unfold runR
  split
  · rename_i h
    simp only [Bool.and_eq_true] at h
    have hb := (planOk_parts h.1).1
    exact ⟨Nat.le_trans (passN_len _ _ _ _) hm, Nat.le_trans (outN_len (by omega) _ _ _) hm⟩
  · exact ⟨Nat.zero_le _, Nat.zero_le _⟩

theorem BinsRd.drewN {w : World} {A : Option Addr} {hs : List Value} {ls : List (List Lt)} (h : BinsRd w A hs ls) (n : Nat) : BinsRd (w.drewN n) A hs ls := h.below (below_drewN (Below.refl _ _) n)
end Go.Proofs.Ytjibjoapbjojlaa
