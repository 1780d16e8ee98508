/-
  Numbers written, bytes found, texts cut: the reference's.
-/
import Derived.Test.YtjibjoapbjojlaaDoorPrN
import Derived.Test.YtjibjoapbjojlaaDoorCode
import Derived.Test.YtjibjoapbjojlaaDoorPool
import Derived.Test.YtjibjoapbjojlaaDoorMark
import Derived.Test.YtjibjoapbjojlaaDoorPlHb
import Derived.Test.YtjibjoapbjojlaaDoorPlL
namespace Go.Proofs.YtjibjoapbjojlaaDoor
open Go.RowKit

theorem strOf_app (a b : List UInt8) : strOf (a ++ b) = strOf a ++ strOf b := str_eq' (by simp [strOf])
set_option maxHeartbeats 1000000 in
set_option maxRecDepth 100000 in
theorem specDec (u : Nat) (hu : u ≤ 1000000000) (w : World) :
    Calls Tryd.prog 47 #[.int .i64 (u : Int)] w fun e w' => e = .returned (.string (decS (u : Int))) ∧ Below w.heap.size w w' := by
  have hlen : (Lib.decDigits u).length ≤ 10 := (dec_facts 9 u (by omega)).2.2.2.1
  go_enter Tryd.func47, Tryd.ntmps47
  go_wp2
  go_loopw [0, 3] (fun i s wr => ∃ (v : Nat) (out : Str), v ≤ 1000000000 ∧ i = .int .i64 v ∧ s = .string out ∧ out.size + (Lib.decDigits v).length ≤ 10 ∧ Hid (strOf (Lib.decDigits v) ++ out = decS (u : Int)) ∧ Hid (Below w.heap.size w wr)) (fun i _ _ => (intOf i).toNat)
  case atStart => exact ⟨u, ByteArray.empty, hu, rfl, rfl, by simpa using hlen, by rw [decS_nat]; exact Lib.hid (by simp), Below.refl _ _⟩
  case round =>
    obtain ⟨v, out, hv, rfl, rfl, hsz, Hout, H⟩ := hrel
    by_cases hlt : 9 < v
    · have hcv := conv_byte wr (48 + (v : Int) % 10)
      have hd := dec_ge (u := v) (by omega)
      rw [show (48 + (v : Int) % 10).toNat = 48 + v % 10 from by omega] at hcv
      obtain ⟨d, hdd⟩ : ∃ d : Str, (⟨#[UInt8.ofNat (48 + v % 10)]⟩ : Str) = d := ⟨_, rfl⟩
      have hds : d.size = 1 := by rw [← hdd]; rfl
      have Hd : Hid (strOf (Lib.decDigits (v / 10)) ++ (d ++ out) = decS (u : Int)) := by
        show _ = _
        rw [← Hout.out, hd, strOf_app, ← hdd]
        refine str_eq' ?_
        simp [strOf]
      have hl2 : (d ++ out).size + (Lib.decDigits (v / 10)).length ≤ 10 := by rw [hd] at hsz; rw [ByteArray.size_append]; simp at hsz; omega
      rw [hdd] at hcv
      have b0 : (9 : Int) < (v : Int) := by omega
      have b1 : 0 ≤ (v : Int) % 10 := by omega
      have b2 : (v : Int) % 10 ≤ 9 := by omega
      clear hd hdd hlen
      go_wp2
      go_roundw
      case rel => exact ⟨v / 10, d ++ out, by omega, by go_num, rfl, hl2, Hd.out, H.out.alloc H.out.size _⟩
      case measure => simp [intOf]; omega
    · have hcv := conv_byte wr (48 + (v : Int))
      have hd := dec_lt (u := v) (by omega)
      rw [show (48 + (v : Int)).toNat = 48 + v from by omega] at hcv
      obtain ⟨d, hdd⟩ : ∃ d : Str, (⟨#[UInt8.ofNat (48 + v)]⟩ : Str) = d := ⟨_, rfl⟩
      have hds : d.size = 1 := by rw [← hdd]; rfl
      have Hd : Hid (d ++ out = decS (u : Int)) := by
        show _ = _
        rw [← Hout.out, hd, ← hdd]
        rfl
      rw [hdd] at hcv
      have b0 : ¬ (9 : Int) < (v : Int) := by omega
      clear hd hdd hlen
      go_wp2
      go_ret
      exact ⟨by rw [Hd.out]; rfl, H.out.alloc H.out.size _⟩

theorem find_at {c : UInt8} {s : Str} {k : Nat} (hk : k < s.size) (h : s[k] = c) (h0 : ∀ (j : Nat) (hj : j < s.size), j < k → s[j] ≠ c) : findB c s = k := by
  have e : s.data.toList = s.data.toList.take k ++ c :: s.data.toList.drop (k + 1) := by
    have hk' : k < s.data.toList.length := by rw [size_data]; exact hk
    conv => lhs; rw [← List.take_append_drop k s.data.toList, List.drop_eq_getElem_cons hk']
    congr 2
  have hc : ¬ c ∈ s.data.toList.take k := by
    intro hm
    obtain ⟨j, hj, e2⟩ := List.getElem_of_mem hm
    rw [List.length_take] at hj
    rw [List.getElem_take] at e2
    exact h0 j (by rw [← size_data]; omega) (by omega) e2
  rw [(findB_of e hc).1, List.length_take, size_data]
  omega
theorem find_none {c : UInt8} {s : Str} (h0 : ∀ (j : Nat) (hj : j < s.size), s[j] ≠ c) : findB c s = -1 := by
  refine findB_neg (Decidable.byContradiction fun h => ?_)
  have h1 := cut_data (c := c) (s := s) (by omega)
  have hm : c ∈ s.data.toList := by rw [h1]; simp
  obtain ⟨j, hj, e⟩ := List.getElem_of_mem hm
  exact h0 j (by rw [← size_data]; exact hj) e
theorem u8_ne {a b : UInt8} (h : ¬ a = b) : ¬ (a.toNat : Int) = (b.toNat : Int) := fun e => h (UInt8.toNat_inj.1 (by omega))

set_option maxHeartbeats 1000000 in
set_option maxRecDepth 100000 in
theorem specFind (s : Str) (c : UInt8) (cv : Int) (hcv : cv = (c.toNat : Int)) (hs : s.size ≤ 1048576) (w : World) :
    Calls Tryd.prog 35 #[.string s, .int .u8 cv] w fun e w' => e = .returned (.int .i64 (findB c s)) ∧ w = w' := by
  subst hcv
  go_enter Tryd.func35, Tryd.ntmps35
  go_wp2
  go_loop [5] (fun i => ∃ k : Nat, k ≤ s.size ∧ i = .int .i64 k ∧ Hid (∀ (j : Nat) (hj : j < s.size), j < k → s[j] ≠ c)) (fun i => s.size - (intOf i).toNat)
  case atStart => exact ⟨0, Nat.zero_le _, rfl, fun j _ h => absurd h (by omega)⟩
  case round =>
    obtain ⟨k, hk, rfl, H⟩ := hrel
    by_cases hlt : k < s.size
    · by_cases h : s[k] = c
      · have hf := Lib.hid (find_at hlt h H.out)
        have h' : (s[k].toNat : Int) = (c.toNat : Int) := by rw [h]
        clear h
        go_wp2
        go_ret
        exact ⟨by rw [hf.out]; rfl, rfl⟩
      · have h' := u8_ne h
        have Hn := Lib.hid h
        clear h
        go_wp2
        go_round
        case rel =>
          refine ⟨k + 1, by omega, by go_num, fun j hj hjk => ?_⟩
          by_cases e : j = k
          · subst e; exact Hn.out
          · exact H.out j hj (by omega)
        case measure => simp [intOf]; omega
    · obtain rfl : k = s.size := by omega
      go_wp2
      go_ret
      exact ⟨by rw [find_none fun j hj => H.out j hj hj]; rfl, rfl⟩

/-- What l9Cut holds when it stands at k, the part under way begun at f. -/
def CutAt (s : Str) (k f : Nat) (out : List Str) : Prop :=
  f ≤ k ∧ (∀ (j : Nat) (hj : j < s.size), f ≤ j → j < k → s[j] ≠ 32) ∧ out ++ (cutL 32 (s.data.toList.drop f)).map strOf = parts s
theorem part_clean {s : Str} {k f : Nat} (h : ∀ (j : Nat) (hj : j < s.size), f ≤ j → j < k → s[j] ≠ 32) : ¬ (32 : UInt8) ∈ (s.data.toList.drop f).take (k - f) := by
  intro hm
  obtain ⟨j, hj, e⟩ := List.getElem_of_mem hm
  rw [List.length_take, List.length_drop, size_data] at hj
  rw [List.getElem_take, List.getElem_drop] at e
  exact h (f + j) (by omega) (by omega) (by omega) e
theorem CutAt.start (s : Str) : CutAt s 0 0 [] := ⟨Nat.le_refl _, fun j _ _ h => absurd h (by omega), rfl⟩
theorem CutAt.skip {s : Str} {k f : Nat} {out : List Str} (h : CutAt s k f out) (hk : k < s.size) (hc : s[k] ≠ 32) : CutAt s (k + 1) f out :=
  ⟨by have := h.1; omega, fun j hj hf hjk => by
    by_cases e : j = k
    · subst e; exact hc
    · exact h.2.1 j hj hf (by omega), h.2.2⟩
theorem CutAt.hit {s : Str} {k f : Nat} {out : List Str} (h : CutAt s k f out) (hk : k < s.size) (hc : s[k] = 32) : CutAt s (k + 1) (k + 1) (out ++ [s.extract f k]) := by
  refine ⟨Nat.le_refl _, fun j _ h1 h2 => absurd h2 (by omega), ?_⟩
  have hf := h.1
  have e : s.data.toList.drop f = (s.data.toList.drop f).take (k - f) ++ 32 :: s.data.toList.drop (k + 1) := by
    conv => lhs; rw [← List.take_append_drop (k - f) (s.data.toList.drop f), List.drop_drop, show f + (k - f) = k from by omega, List.drop_eq_getElem_cons (show k < s.data.toList.length by rw [size_data]; exact hk)]
    congr 2
  rw [← h.2.2, e, cutL_hit _ (part_clean h.2.1), List.map_cons, List.append_assoc, List.singleton_append]
  congr 2
  exact (strOf_self _).symm.trans (by rw [extract_data])
theorem CutAt.last {s : Str} {f : Nat} {out : List Str} (h : CutAt s s.size f out) : out ++ [s.extract f s.size] = parts s := by
  have e : (s.data.toList.drop f).take (s.size - f) = s.data.toList.drop f := List.take_of_length_le (by rw [List.length_drop, size_data]; omega)
  have hc := part_clean h.2.1
  rw [e] at hc
  rw [← h.2.2, cutL_miss hc, List.map_cons, List.map_nil]
  congr 2
  exact (strOf_self _).symm.trans (by rw [extract_data, e])
theorem cut_cells {w : World} {t : TypeId} (x : Str) {g : Nat} (hg : g = w.heap.size) : ∀ (j : Nat) (u : Value), (strEnc x)[j]? = some u → (w.alloc (.cells #[.string x] t)).cell? (Addr.add ⟨g, 0, none⟩ j) = some u := by
  subst hg
  intro j u hu
  have hj : j < 1 := (List.getElem?_eq_some_iff.1 hu).1
  obtain rfl : j = 0 := by omega
  simp [strEnc] at hu
  subst hu
  rw [show (Addr.add ⟨w.heap.size, 0, none⟩ 0) = (⟨w.heap.size, 0, none⟩ : Addr) from rfl, World.cell?_alloc_at _ _ _ _ rfl]
  rfl

set_option maxHeartbeats 2000000 in
set_option maxRecDepth 100000 in
theorem specCut (s : Str) (q : Int) (hq : q = 32) (hs : s.size ≤ 1048576) (w : World) :
    Calls Tryd.prog 34 #[.string s, .int .u8 q] w fun e w' => ∃ A n c, e = .returned (.slice A n c) ∧ Own w' w.heap.size 9 1 strEnc (.slice A n c) (parts s) ∧ Below w.heap.size w w' := by
  have H0 : Hid (Pool w (w.alloc (Obj.cells #[] 9)) [ownP 9 1 strEnc (.slice (some ⟨w.heap.size, 0, none⟩) 0 0) []]) := (Pool.nil_ w).addOwn ((Below.refl _ _).alloc (Nat.le_refl _) _) (Own.lit0 w 9 1 strEnc)
  have HQ := Lib.hid hq
  clear hq
  go_enter Tryd.func34, Tryd.ntmps34
  go_wp2
  go_loopw [5, 6, 7] (fun o fv i wr => ∃ (k f : Nat) (A : Option Addr) (n c : Nat) (out : List Str), i = .int .i64 k ∧ fv = .int .i64 f ∧ o = .slice A n c ∧ k ≤ s.size + 1 ∧ f ≤ k ∧ n ≤ k ∧ Hid (k ≤ s.size → CutAt s k f out) ∧ Hid (k = s.size + 1 → out = parts s) ∧ Hid (Pool w wr [ownP 9 1 strEnc (.slice A n c) out])) (fun _ _ i _ => s.size + 1 - (intOf i).toNat)
  case atStart => exact ⟨0, 0, _, 0, 0, [], rfl, rfl, rfl, by omega, Nat.le_refl _, Nat.le_refl _, fun _ => CutAt.start s, fun h => absurd h (by omega), H0.out⟩
  case round =>
    clear H0
    obtain ⟨k, f, A, n, c, out, rfl, rfl, rfl, hk, hf, hn, HC, HD, H⟩ := hrel
    have hln := Lib.hid (H.out.own 0 rfl).len
    by_cases hle : k ≤ s.size
    · have C := Lib.hid (HC.out hle)
      by_cases he : k = s.size
      · subst he
        have HL := Lib.hid C.out.last
        have hfI : (f : Int) ≤ (s.size : Int) := by omega
        go_wp2_with (at_builtin; refine wpList_append1L (.tmp 26) (.tmp 31) 34 9 str_info Tryd.underlying34 rfl (by decide) rfl rfl (s.extract f s.size) rfl hln.out ((H.out.alloc _).own 0 rfl) rfl strEnc_len (cut_cells _ rfl) (strEnc_one _) (by omega) (by omega) (Nat.zero_le _) ?_; intro g3 c3 w5 ho3 hg3 hat3)
        have H5 : Hid (Pool w w5 [ownP 9 1 strEnc (.slice (some ⟨g3, 0, none⟩) (n + 1) c3) (out ++ [s.extract f s.size])]) := (H.out.alloc (Obj.cells #[.string (s.extract f s.size)] 9)).append 0 rfl ho3 hg3 (fun q e => by injection e with e; subst e; exact hat3)
        clear ho3 hg3 hat3
        go_roundw
        case rel => exact ⟨s.size + 1, s.size + 1, _, n + 1, c3, out ++ [s.extract f s.size], by go_num, by go_num, rfl, Nat.le_refl _, Nat.le_refl _, by omega, fun h => absurd h (by omega), fun _ => HL.out, H5.out⟩
        case measure => simp [intOf]
      · have hlt : k < s.size := by omega
        have hneI : ((k : Int) == (s.size : Int)) = false := beq_eq_false_iff_ne.2 (by omega)
        by_cases hc : s[k] = 32
        · have HL := Lib.hid (C.out.hit hlt hc)
          have hcI : ((s[k].toNat : Int) == q) = true := by rw [hc, HQ.out]; rfl
          have hfI : (f : Int) ≤ (k : Int) := by omega
          clear hc he
          go_wp2_with (at_builtin; refine wpList_append1L (.tmp 26) (.tmp 31) 34 9 str_info Tryd.underlying34 rfl (by decide) rfl rfl (s.extract f k) rfl hln.out ((H.out.alloc _).own 0 rfl) rfl strEnc_len (cut_cells _ rfl) (strEnc_one _) (by omega) (by omega) (Nat.zero_le _) ?_; intro g3 c3 w5 ho3 hg3 hat3)
          have H5 : Hid (Pool w w5 [ownP 9 1 strEnc (.slice (some ⟨g3, 0, none⟩) (n + 1) c3) (out ++ [s.extract f k])]) := (H.out.alloc (Obj.cells #[.string (s.extract f k)] 9)).append 0 rfl ho3 hg3 (fun q e => by injection e with e; subst e; exact hat3)
          clear ho3 hg3 hat3
          go_roundw
          case rel => exact ⟨k + 1, k + 1, _, n + 1, c3, out ++ [s.extract f k], by go_num, by go_num, rfl, by omega, Nat.le_refl _, by omega, fun _ => HL.out, fun h => absurd h (by omega), H5.out⟩
          case measure => simp [intOf]; omega
        · have HL := Lib.hid (C.out.skip hlt hc)
          have hcI : ((s[k].toNat : Int) == q) = false := by
            have : ¬ (s[k].toNat : Int) = q := fun e => hc (UInt8.toNat_inj.1 (by have := HQ.out; have : (32 : UInt8).toNat = 32 := rfl; omega))
            exact beq_eq_false_iff_ne.2 this
          clear hc he
          go_wp2
          go_roundw
          case rel => exact ⟨k + 1, f, A, n, c, out, by go_num, rfl, rfl, by omega, by omega, by omega, fun _ => HL.out, fun h => absurd h (by omega), H.out⟩
          case measure => simp [intOf]; omega
    · obtain rfl : k = s.size + 1 := by omega
      have hgt : ¬ ((s.size : Int) + 1 ≤ (s.size : Int)) := by omega
      have HP := Lib.hid (HD.out rfl)
      go_wp2
      go_ret
      have := H.out
      rw [HP.out] at this
      exact ⟨A, n, c, rfl, this.res 0 rfl, this.below⟩
end Go.Proofs.YtjibjoapbjojlaaDoor
