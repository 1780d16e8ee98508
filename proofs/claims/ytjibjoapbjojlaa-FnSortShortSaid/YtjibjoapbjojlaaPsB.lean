/-
  Bins joined, letters copied, passes done: the program's and the reference's.
-/
import Derived.Test.YtjibjoapbjojlaaPsA
import Derived.Test.YtjibjoapbjojlaaCopyK
namespace Go.Proofs.Ytjibjoapbjojlaa
open Go.RowKit

/-- A list of bins reads at an address. -/
structure BinsRd (w : World) (A : Option Addr) (hs : List Value) (ls : List (List Lt)) : Prop where
  len : hs.length = ls.length
  out : Rd w 1 rawEnc A hs
  inn : ∀ (k : Nat) (l : List Lt), ls[k]? = some l → ∃ A' c, hs[k]? = some (.slice A' l.length c) ∧ l.length ≤ c ∧ (A' = none → c = 0) ∧ Rd w 2 ltEnc A' l
theorem BinsRd.below {w w' : World} {A : Option Addr} {hs : List Value} {ls : List (List Lt)} (h : BinsRd w A hs ls) (hb : Below w.heap.size w w') : BinsRd w' A hs ls :=
  ⟨h.len, h.out.below hb, fun k l hl => by obtain ⟨A', c, h1, h2, h3, h4⟩ := h.inn k l hl; exact ⟨A', c, h1, h2, h3, h4.below hb⟩⟩
theorem Own.formN {α : Type} {w : World} {base : Nat} {e : TypeId} {size : Nat} {enc : α → List Value} {v : Value} {l : List α} (hs : ∀ x, (enc x).length = size) (h : Own w base e size enc v l) : ∃ A c, v = .slice A l.length c ∧ l.length ≤ c ∧ (A = none → c = 0) ∧ Rd w size enc A l := by
  obtain ⟨A, c, hv, h1, _, h3, _⟩ := h.form hs
  refine ⟨A, c, hv, h1, ?_, h3⟩
  rintro rfl
  rcases h.2 with ⟨h', _⟩ | ⟨g, cap, cur, h', _⟩
  · rw [hv] at h'; injection h'
  · rw [hv] at h'; injection h' with h'; cases h'
theorem Pool.binsRd {w0 w : World} {T TO : TypeId} {A : Option Addr} {B c : Nat} {hs : List Value} {ls : List (List Lt)} {rest : List Piece} (h : Pool w0 w (ownP TO 1 rawEnc (.slice A B c) hs :: rest)) (hi : ∀ p ∈ innerP T hs ls, p ∈ rest) (hl : hs.length = ls.length) : BinsRd w A hs ls := by
  refine ⟨hl, (h.own 0 rfl).rd rawEnc_len, fun k l hk => ?_⟩
  have hkl := (List.getElem?_eq_some_iff.1 hk).1
  obtain ⟨v, hv⟩ : ∃ v, hs[k]? = some v := ⟨_, List.getElem?_eq_getElem (by omega)⟩
  have hp : Own w 0 T 2 ltEnc v l := (h.all (ltsP T v l) (List.mem_cons_of_mem _ (hi _ (List.mem_of_getElem? (innerP_at hv hk))))).1
  obtain ⟨A', c', rfl, h1, h2, h3⟩ := hp.formN ltEnc_len
  exact ⟨A', c', hv, h1, h2, h3⟩

theorem flat_tk {ls : List (List Lt)} {k : Nat} {l : List Lt} (h : ls[k]? = some l) : (ls.take (k + 1)).flatten = (ls.take k).flatten ++ l := by
  rw [tk_succ h, List.flatten_append]; simp
theorem flat_tk_len (ls : List (List Lt)) (k : Nat) : (ls.take k).flatten.length ≤ ls.flatten.length := by
  rw [show ls.flatten = (ls.take k).flatten ++ (ls.drop k).flatten from by rw [← List.flatten_append, List.take_append_drop], List.length_append]
  omega

set_option maxHeartbeats 2000000 in
set_option maxRecDepth 100000 in
theorem specCollect (A : Option Addr) (hs : List Value) (ls : List (List Lt)) (n cap : Nat) (hl : n = hs.length) (w : World) (hn : n ≤ 16777216) (hm : ls.flatten.length ≤ 16777216) (h : BinsRd w A hs ls) :
    Calls Try.prog 27 #[.slice A n cap] w fun e w' => ∃ A' n' c', e = .returned (.slice A' n' c') ∧ Own w' w.heap.size 39 2 ltEnc (.slice A' n' c') ls.flatten ∧ Below w.heap.size w w' := by
  have Hl := Lib.hid hl
  have Hh := Lib.hid h
  have Hm := Lib.hid hm
  clear h hl hm
  go_enter Try.func27, Try.ntmps27
  go_wp2
  go_loopw [4, 3] (fun i t wr => ∃ j : Nat, j ≤ n ∧ i = .int .i64 j ∧ ∃ A1 n1 c1, t = .slice A1 n1 c1 ∧ Below w.heap.size w wr ∧ Hid (Own wr w.heap.size 39 2 ltEnc (.slice A1 n1 c1) (ls.take j).flatten)) (fun i _ _ => n - (intOf i).toNat)
  case atStart => exact ⟨0, Nat.zero_le _, rfl, _, 0, 0, rfl, (Below.refl _ _).alloc (Nat.le_refl _) _, by rw [List.take_zero]; exact Own.lit0 _ _ _ _⟩
  case round =>
    obtain ⟨j, hj, rfl, A1, n1, c1, rfl, hb, Ho⟩ := hrel
    by_cases hlt : j < n
    · obtain ⟨l, hlj⟩ : ∃ l, ls[j]? = some l := ⟨_, List.getElem?_eq_getElem (by have := Hh.out.len; have := Hl.out; omega)⟩
      obtain ⟨A2, c2, hv, h1, h2, h3⟩ := (Hh.out.below hb).inn j l hlj
      obtain ⟨ad, rfl, hab, c0⟩ := (Hh.out.below hb).out.one hv rfl
      have hF : Hid ((ls.take (j + 1)).flatten = (ls.take j).flatten ++ l) := flat_tk hlj
      have hsz : (ls.take j).flatten.length + l.length ≤ 16777216 := by
        have e1 := flat_tk_len ls (j + 1)
        rw [hF.out, List.length_append] at e1
        have := Hm.out
        omega
      have hH2 := Lib.hid h2
      have hH3 := Lib.hid h3
      clear hv hlj h2 h3
      obtain ⟨y, hy⟩ : ∃ y, (ls.take j).flatten = y := ⟨_, rfl⟩
      rw [hy] at Ho hF hsz
      clear hy
      go_wp2_with (at_builtin; refine wpList_appendL (.tmp 12) (.tmp 16) 23 39 lt_info Try.underlying23 rfl (by decide) rfl rfl rfl Ho.out rfl rfl hH2.out ltEnc_len hH3.out (fun y _ => ltEnc_one y) (by omega) (by omega) hb.size ?_; intro A3 c3 w3 ho3 hg3)
      have hb3 := below_own hb hg3 Ho.out (Nat.le_refl _) hb.size
      go_roundw
      case rel => exact ⟨j + 1, by omega, by go_num, _, _, _, rfl, hb3, by rw [hF.out]; exact ho3⟩
      case measure => simp [intOf]; omega
    · obtain rfl : j = n := by omega
      go_wp2
      go_ret
      have := Ho.out
      rw [List.take_of_length_le (by have := Hh.out.len; have := Hl.out; omega)] at this
      exact ⟨A1, n1, c1, rfl, this, hb⟩

set_option maxHeartbeats 1000000 in
set_option maxRecDepth 100000 in
theorem implCopyLetters (A : Option Addr) (l : List Lt) (n cap : Nat) (hl : n = l.length) (w : World) (hn : n ≤ 16777216) (h : Rd w 2 ltEnc A l) :
    Calls Try.prog 15 #[.slice A n cap] w fun e w' => ∃ g, e = .returned (.slice (some ⟨g, 0, none⟩) n n) ∧ Own w' w.heap.size 39 2 ltEnc (.slice (some ⟨g, 0, none⟩) n n) l ∧ Below w.heap.size w w' := by
  have Hr := Lib.hid h
  have Hl := Lib.hid hl
  clear h hl
  obtain ⟨i0, hi, hz0, hz1, hz2⟩ := info_parts lt_info
  go_enter Try.func15, Try.ntmps15
  have K1 : ∀ w1, w1.ownsRow w.heap.size 39 2 (.slice (some ⟨w.heap.size, 0, none⟩) n n) n (madeCells #[.int .i64 0, .string ByteArray.empty] (n * 2)).toList → w.grownBy w1 none →
      ∃ w2, (Builtin.copy_ #[23, 23] 3 #[.slice (some ⟨w.heap.size, 0, none⟩) n n, .slice A n cap]).run Try.prog w1 = .ok (.int .i64 n) w2 ∧ Hid (Own w2 w.heap.size 39 2 ltEnc (.slice (some ⟨w.heap.size, 0, none⟩) n n) l) ∧ Below w.heap.size w w2 := fun w1 hown1 hg1 => by
    have hown : Own w1 w.heap.size 39 2 ltEnc (.slice (some ⟨w.heap.size, 0, none⟩) n n) (List.replicate n ((0, ByteArray.empty) : Lt)) := by
      unfold Own
      rw [List.length_replicate, flat_replicate]
      have := made2 (.int .i64 0) (.string ByteArray.empty) n
      rw [show ltEnc ((0, ByteArray.empty) : Lt) = [.int .i64 0, .string ByteArray.empty] from rfl, ← this]
      exact hown1
    have hb1 : Below w.heap.size w w1 := grown_below hg1 (fun _ e => by cases e)
    exact run_copyK (P := Try.prog) 23 23 3 39 (by decide) Try.underlying23 (by rw [hi]; simpa using hz1) ltEnc_len (capA := cap) hown (Hr.out.below hb1) Hl.out (fun x _ => ltEnc_one x) hb1 (Nat.le_refl _)
  have K1 := Lib.hid K1
  go_wp2_with (at_make; refine wpList_make_full _ rfl _ _ 23 rfl w.heap.size 39 i0 _ 2 Try.underlying23 hi hz0 hz1 .i64 .i64 _ _ n rfl rfl rfl rfl (by rw [hz2]; omega) (by unfold maxLen; omega) (Nat.le_refl _) ?_; intro w1 hown1 hg1; obtain ⟨w2, hrun, Hown2, hb2⟩ := K1.out w1 hown1 hg1; clear hown1 hg1)
  go_ret
  exact ⟨_, rfl, Hown2.out, hb2⟩
end Go.Proofs.Ytjibjoapbjojlaa
