/-
  Numbers written, bytes found, texts cut: the reference's.
-/
import Derived.Test.YtjibjoapbjojlaaPrN
import Derived.Test.YtjibjoapbjojlaaCode
import Derived.Test.YtjibjoapbjojlaaPool
import Derived.Test.YtjibjoapbjojlaaMark
import Derived.Test.YtjibjoapbjojlaaPlHb
import Derived.Test.YtjibjoapbjojlaaPlL
namespace Go.Proofs.Ytjibjoapbjojlaa
open Go.RowKit

theorem strOf_app (a b : List UInt8) : strOf (a ++ b) = strOf a ++ strOf b := str_eq' (by simp [strOf])
set_option maxHeartbeats 1000000 in
set_option maxRecDepth 100000 in
theorem specDec (u : Nat) (hu : u ≤ 1000000000) (w : World) :
    Calls Try.prog 43 #[.int .i64 (u : Int)] w fun e w' => e = .returned (.string (decS (u : Int))) ∧ Below w.heap.size w w' := by
  have hlen : (Lib.decDigits u).length ≤ 10 := (dec_facts 9 u (by omega)).2.2.2.1
  go_enter Try.func43, Try.ntmps43
  go_wp2
  go_loopw [0, 3] (fun i s wr => ∃ (v : Nat) (out : Str), v ≤ 1000000000 ∧ i = .int .i64 v ∧ s = .string out ∧ out.size + (Lib.decDigits v).length ≤ 10 ∧ Hid (strOf (Lib.decDigits v) ++ out = decS (u : Int)) ∧ Hid (Below w.heap.size w wr)) (fun i _ _ => (intOf i).toNat)
  case atStart => exact ⟨u, ByteArray.empty, hu, rfl, rfl, by simpa using hlen, by rw [decS_nat]; exact Lib.hid (by simp), Below.refl _ _⟩
  case round =>
    obtain ⟨v, out, hv, rfl, rfl, hsz, Hout, H⟩ := hrel
    by_cases hlt : 9 < v
    · have hcv := conv_byte wr (48 + (v : Int) % 10)
      have hd := dec_ge (u := v) (by omega)
      rw [show (48 + (v : Int) % 10).toNat = 48 + v % 10 from by omega] at hcv
      obtain ⟨d, hdd⟩ : ∃ d : Str, (⟨#[UInt8.ofNat (48 + v % 10)]⟩ : Str) = d := ⟨_, rfl⟩
      have hds : d.size = 1 := by rw [← hdd]; rfl
      have Hd : Hid (strOf (Lib.decDigits (v / 10)) ++ (d ++ out) = decS (u : Int)) := by
        show _ = _
        rw [← Hout.out, hd, strOf_app, ← hdd]
        refine str_eq' ?_
        simp [strOf]
      have hl2 : (d ++ out).size + (Lib.decDigits (v / 10)).length ≤ 10 := by rw [hd] at hsz; rw [ByteArray.size_append]; simp at hsz; omega
      rw [hdd] at hcv
      have b0 : (9 : Int) < (v : Int) := by omega
      have b1 : 0 ≤ (v : Int) % 10 := by omega
      have b2 : (v : Int) % 10 ≤ 9 := by omega
      clear hd hdd hlen
      go_wp2
      go_roundw
      case rel => exact ⟨v / 10, d ++ out, by omega, by go_num, rfl, hl2, Hd.out, H.out.alloc H.out.size _⟩
      case measure => simp [intOf]; omega
    · have hcv := conv_byte wr (48 + (v : Int))
      have hd := dec_lt (u := v) (by omega)
      rw [show (48 + (v : Int)).toNat = 48 + v from by omega] at hcv
      obtain ⟨d, hdd⟩ : ∃ d : Str, (⟨#[UInt8.ofNat (48 + v)]⟩ : Str) = d := ⟨_, rfl⟩
      have hds : d.size = 1 := by rw [← hdd]; rfl
      have Hd : Hid (d ++ out = decS (u : Int)) := by
        show _ = _
        rw [← Hout.out, hd, ← hdd]
        rfl
      rw [hdd] at hcv
      have b0 : ¬ (9 : Int) < (v : Int) := by omega
      clear hd hdd hlen
      go_wp2
      go_ret
      exact ⟨by rw [Hd.out]; rfl, H.out.alloc H.out.size _⟩

theorem find_at {c : UInt8} {s : Str} {k : Nat} (hk : k < s.size) (h : s[k] = c) (h0 : ∀ (j : Nat) (hj : j < s.size), j < k → s[j] ≠ c) : findB c s = k := by
  have e : s.data.toList = s.data.toList.take k ++ c :: s.data.toList.drop (k + 1) := by
    have hk' : k < s.data.toList.length := by rw [size_data]; exact hk
    conv => lhs; rw [← List.take_append_drop k s.data.toList, List.drop_eq_getElem_cons hk']
    congr 2
  have hc : ¬ c ∈ s.data.toList.take k := by
    intro hm
    obtain ⟨j, hj, e2⟩ := List.getElem_of_mem hm
    rw [List.length_take] at hj
    rw [List.getElem_take] at e2
    exact h0 j (by rw [← size_data]; omega) (by omega) e2
  rw [(findB_of e hc).1, List.length_take, size_data]
  omega
theorem find_none {c : UInt8} {s : Str} (h0 : ∀ (j : Nat) (hj : j < s.size), s[j] ≠ c) : findB c s = -1 := by
  refine findB_neg (Decidable.byContradiction fun h => ?_)
  have h1 := cut_data (c := c) (s := s) (by omega)
  have hm : c ∈ s.data.toList := by rw [h1]; simp
  obtain ⟨j, hj, e⟩ := List.getElem_of_mem hm
  exact h0 j (by rw [← size_data]; exact hj) e
theorem u8_ne {a b : UInt8} (h : ¬ a = b) : ¬ (a.toNat : Int) = (b.toNat : Int) := fun e => h (UInt8.toNat_inj.1 (by omega))

/-- What l9Cut holds when it stands at k, the part under way begun at f. -/
def CutAt (s : Str) (k f : Nat) (out : List Str) : Prop :=
  f ≤ k ∧ (∀ (j : Nat) (hj : j < s.size), f ≤ j → j < k → s[j] ≠ 32) ∧ out ++ (cutL 32 (s.data.toList.drop f)).map strOf = parts s
theorem part_clean {s : Str} {k f : Nat} (h : ∀ (j : Nat) (hj : j < s.size), f ≤ j → j < k → s[j] ≠ 32) : ¬ (32 : UInt8) ∈ (s.data.toList.drop f).take (k - f) := by
  intro hm
  obtain ⟨j, hj, e⟩ := List.getElem_of_mem hm
  rw [List.length_take, List.length_drop, size_data] at hj
  rw [List.getElem_take, List.getElem_drop] at e
  exact h (f + j) (by omega) (by omega) (by omega) e
theorem CutAt.start (s : Str) : CutAt s 0 0 [] := ⟨Nat.le_refl _, fun j _ _ h => absurd h (by omega), rfl⟩
theorem CutAt.skip {s : Str} {k f : Nat} {out : List Str} (h : CutAt s k f out) (hk : k < s.size) (hc : s[k] ≠ 32) : CutAt s (k + 1) f out :=
  ⟨by have := h.1; omega, fun j hj hf hjk => by
    by_cases e : j = k
    · subst e; exact hc
    · exact h.2.1 j hj hf (by omega), h.2.2⟩
theorem CutAt.hit {s : Str} {k f : Nat} {out : List Str} (h : CutAt s k f out) (hk : k < s.size) (hc : s[k] = 32) : CutAt s (k + 1) (k + 1) (out ++ [s.extract f k]) := by
  refine ⟨Nat.le_refl _, fun j _ h1 h2 => absurd h2 (by omega), ?_⟩
  have hf := h.1
  have e : s.data.toList.drop f = (s.data.toList.drop f).take (k - f) ++ 32 :: s.data.toList.drop (k + 1) := by
    conv => lhs; rw [← List.take_append_drop (k - f) (s.data.toList.drop f), List.drop_drop, show f + (k - f) = k from by omega, List.drop_eq_getElem_cons (show k < s.data.toList.length by rw [size_data]; exact hk)]
    congr 2
  rw [← h.2.2, e, cutL_hit _ (part_clean h.2.1), List.map_cons, List.append_assoc, List.singleton_append]
  congr 2
  exact (strOf_self _).symm.trans (by rw [extract_data])
theorem CutAt.last {s : Str} {f : Nat} {out : List Str} (h : CutAt s s.size f out) : out ++ [s.extract f s.size] = parts s := by
  have e : (s.data.toList.drop f).take (s.size - f) = s.data.toList.drop f := List.take_of_length_le (by rw [List.length_drop, size_data]; omega)
  have hc := part_clean h.2.1
  rw [e] at hc
  rw [← h.2.2, cutL_miss hc, List.map_cons, List.map_nil]
  congr 2
  exact (strOf_self _).symm.trans (by rw [extract_data, e])
theorem cut_cells {w : World} {t : TypeId} (x : Str) {g : Nat} (hg : g = w.heap.size) : ∀ (j : Nat) (u : Value), (strEnc x)[j]? = some u → (w.alloc (.cells #[.string x] t)).cell? (Addr.add ⟨g, 0, none⟩ j) = some u := by
  subst hg
  intro j u hu
  have hj : j < 1 := (List.getElem?_eq_some_iff.1 hu).1
  obtain rfl : j = 0 := by omega
  simp [strEnc] at hu
  subst hu
  rw [show (Addr.add ⟨w.heap.size, 0, none⟩ 0) = (⟨w.heap.size, 0, none⟩ : Addr) from rfl, World.cell?_alloc_at _ _ _ _ rfl]
  rfl
end Go.Proofs.Ytjibjoapbjojlaa
