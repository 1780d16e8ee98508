/-
  Nothing sorted; a text put in order.
-/
import Derived.Test.YtdpmjohfjpohjaaEn0
namespace Go.Proofs.Ytdpmjohfjpohjaa
open Go.RowKit

set_option maxHeartbeats 1000000 in
theorem insertNil (w : World) : Calls Try.prog 87 #[.slice none 0 0, .int .i64 0, .int .i64 0] w fun e w' => e = .returned (.tuple #[]) ∧ w = w' := by
  go_enter Try.func87, Try.ntmps87
  go_wp2
  go_loopw [6] (fun i wr => i = .int .i64 1 ∧ wr = w) (fun _ _ => 0)
  case atStart => exact ⟨rfl, rfl⟩
  case round =>
    obtain ⟨rfl, rfl⟩ := hrel
    go_wp2
    go_end0
    exact ⟨rfl, rfl⟩

set_option maxHeartbeats 1000000 in
theorem pdqNil (w : World) (k : Int) : Calls Try.prog 73 #[.slice none 0 0, .int .i64 0, .int .i64 0, .int .i64 k] w fun e w' => e = .returned (.tuple #[]) ∧ w = w' := by
  go_enter Try.func73, Try.ntmps73
  go_wp2
  go_loopw [1, 2, 3, 8, 9] (fun a b c d e wr => a = .int .i64 0 ∧ b = .int .i64 0 ∧ c = .int .i64 k ∧ d = .bool true ∧ e = .bool true ∧ wr = w) (fun _ _ _ _ _ _ => 0)
  case atStart => exact ⟨rfl, rfl, rfl, rfl, rfl, rfl⟩
  case round =>
    obtain ⟨rfl, rfl, rfl, rfl, rfl, rfl⟩ := hrel
    go_wp2_with fail
    refine (insertNil _).mono ?_
    rintro e w1 ⟨rfl, rfl⟩
    go_wp2
    refine bodyPost_ret (results_none rfl _ _ _) rfl ?_
    exact ⟨rfl, rfl⟩

set_option maxHeartbeats 1000000 in
theorem len64Zero (w : World) : Calls Try.prog 85 #[.int .u64 0] w fun e w' => e = .returned (.int .i64 0) ∧ w = w' := by
  go_enter Try.func85, Try.ntmps85
  go_wp2
  go_ret
  exact ⟨by show Ending.returned (.int .i64 (wrap64 (wrap64 (Lib.len8 0)))) = _; rw [show Lib.len8 0 = 0 from by kernel_rfl]; simp [wrap64], rfl⟩

set_option maxHeartbeats 1000000 in
theorem lenZero (w : World) : Calls Try.prog 71 #[.int .u64 0] w fun e w' => e = .returned (.int .i64 0) ∧ w = w' := by
  go_enter Try.func71, Try.ntmps71
  go_wp2_with fail
  refine (len64Zero _).mono ?_
  rintro e w1 ⟨rfl, rfl⟩
  go_wp2
  go_ret
  exact ⟨rfl, rfl⟩

set_option maxHeartbeats 1000000 in
theorem sortNil (w : World) : Calls Try.prog 63 #[.slice none 0 0] w fun e w' => e = .returned (.tuple #[]) ∧ w = w' := by
  go_enter Try.func63, Try.ntmps63
  go_wp2_with fail
  refine (lenZero _).mono ?_
  rintro e w1 ⟨rfl, rfl⟩
  go_wp2_with fail
  refine (pdqNil _ _).mono ?_
  rintro e w1 ⟨rfl, rfl⟩
  go_wp2
  go_end0
  exact ⟨rfl, rfl⟩
theorem insS_skip {s : Str} : ∀ (a r : List Str), (∀ y ∈ a, sLe y s = true) → insS (a ++ r) s = a ++ insS r s
  | [], _, _ => rfl
  | y :: a, r, h => by
    show insS (y :: (a ++ r)) s = _
    rw [show insS (y :: (a ++ r)) s = y :: insS (a ++ r) s from if_pos (h y (by simp)), insS_skip a r (fun z hz => h z (by simp [hz]))]
    rfl

theorem st_info : (Try.prog.info? 9).map (fun i => (i.zero, i.size, i.bytes)) = some (some (.string ByteArray.empty), 1, 16) := by kernel_rfl
theorem st_one (x : Str) : ∀ u ∈ strEnc x, u.oneCell' = true := by
  intro u hu
  simp [strEnc] at hu
  subst hu; rfl
theorem st_cells {w : World} {t : TypeId} (x : Str) {g : Nat} (hg : g = w.heap.size) : ∀ (j : Nat) (u : Value), (strEnc x)[j]? = some u → (w.alloc (.cells #[.string x] t)).cell? (Addr.add ⟨g, 0, none⟩ j) = some u := by
  subst hg
  intro j u hu
  have hj : j < 1 := (List.getElem?_eq_some_iff.1 hu).1
  obtain rfl : j = 0 := by omega
  simp [strEnc] at hu
  subst hu
  rw [show (Addr.add ⟨w.heap.size, 0, none⟩ 0) = (⟨w.heap.size, 0, none⟩ : Addr) from rfl, World.cell?_alloc_at _ _ _ _ rfl]
  rfl

theorem st_push {α : Type} {w : World} {base : Nat} {e : TypeId} {size : Nat} {enc : α → List Value} {v : Value} {l : List α} {k : Nat} {x : α} (h : w.ownsRow base e size v (k + 1) (l.flatMap enc ++ enc x)) (hk : k = l.length) : Own w base e size enc v (l ++ [x]) := by
  subst hk; exact Own.of_append h
/-- append of one element. -/
theorem st_append1 {P : Program} {α : Type} {w : World} {ops : Array Oper} {rest : List Oper} {o : Oper} {a : Act} {Q : Exit → Act → World → Prop} {enc : α → List Value} (s x : Operand) (t e : TypeId) {z : Value} {size bytes : Nat}
    (hinfo : (P.info? e).map (fun i => (i.zero, i.size, i.bytes)) = some (some z, size, bytes)) (ht : P.underlying t = some (.slice e)) (hzs : z.cells.size = size) (hsz : 0 < size)
    (hgd : o.guard = none) (ho : o.op = .call { callee := .builtin .append, args := #[s, x], argTypes := #[t, t] })
    {base k : Nat} {v : Value} {l : List α} (y : α) (hs : a.eval s = v) (hk : k = l.length) (hown : Own w base e size enc v l) {ad : Addr} {c : Nat} (hx : a.eval x = .slice (some ad) 1 c) (henc : ∀ x, (enc x).length = size)
    (hy : ∀ j u, (enc y)[j]? = some u → w.cell? (ad.add j) = some u) (h1 : ∀ u ∈ enc y, u.oneCell' = true) (hl : (k + 1) * bytes ≤ 140737488355328) (h63 : k + 1 ≤ 9223372036854775807) (hbase : base ≤ w.heap.size)
    (h : ∀ g c' w', Own w' base e size enc (.slice (some ⟨g, 0, none⟩) (k + 1) c') (l ++ [y]) → w.grownBy w' v.ownBlock → (v.ownBlock = some g ∨ w.heap.size ≤ g) → wpList P ops Q rest (a.put o.dst (.slice (some ⟨g, 0, none⟩) (k + 1) c')) w') : wpList P ops Q (o :: rest) a w := by
  subst hk
  obtain ⟨i0, hi, hz0, hz1, hz2⟩ := info_parts hinfo
  refine wpList_append_lies w hgd s x t ho base e i0 z size bytes ht hi hz0 hz1 hz2 hzs hsz v l.length (l.flatMap enc) hs hown ad 1 c (enc y) hx (by rw [henc, Nat.one_mul]) hy h1 (by omega) (by unfold maxLen; omega) hl hbase _ rfl ?_
  intro g cap w' hown' hg' hat hlt
  exact h g cap w' (st_push hown' rfl) hg' (by rcases hat with h' | h'; exact .inl h'; exact .inr (by omega))

theorem below_ownS {α : Type} {B : Nat} {w0 w w' : World} {base : Nat} {e : TypeId} {size : Nat} {enc : α → List Value} {v : Value} {l : List α} (h : Below B w0 w) (hg : w.grownBy w' v.ownBlock) (ho : Own w base e size enc v l) (hB : B ≤ base) (hw : B ≤ w.heap.size) : Below B w0 w' :=
  h.trans ⟨hg.os, hg.tape, hg.output, hg.size, fun k hk => hg.block k (by omega) (by intro e; have := (ho.lt k e.symm).1; omega)⟩
theorem less_sLe (s x : Str) : Op.bytesLess (ByteArray.toList s) (ByteArray.toList x) = !sLe x s := by
  rw [bytesLess_eq, ByteArray.toList_eq, ByteArray.toList_eq]
  unfold sLe
  by_cases h : s.data.toList < x.data.toList
  · rw [decide_eq_true h, decide_eq_false (fun h2 : x.data.toList ≤ s.data.toList => h2 h)]; rfl
  · rw [decide_eq_false h, decide_eq_true (show x.data.toList ≤ s.data.toList from h)]; rfl

set_option maxHeartbeats 2000000 in
set_option maxRecDepth 100000 in
theorem specInsert (A : Option Addr) (l : List Str) (n c : Nat) (s : Str) (hl : n = l.length) (w : World) (hn : n ≤ 16777216) (h : Rd w 1 strEnc A l) :
    Calls Try.prog 59 #[.slice A n c, .string s] w fun e w' => ∃ A' c', e = .returned (.slice A' (n + 1) c') ∧ Own w' w.heap.size 9 1 strEnc (.slice A' (n + 1) c') (insS l s) ∧ Below w.heap.size w w' := by
  have Hl := Lib.hid hl
  have Hr := Lib.hid h
  clear h hl
  go_enter Try.func59, Try.ntmps59
  go_wp2
  go_loopw [5, 6, 7] (fun o d i wr => ∃ j m : Nat, ∃ (B : Option Addr) (b : Nat) (out : List Str) (g : Bool), j ≤ n ∧ i = .int .i64 j ∧ d = .bool g ∧ o = .slice B m b ∧ m ≤ n + 1 ∧ Hid (m = if g then j + 1 else j) ∧ Hid (Own wr w.heap.size 9 1 strEnc (.slice B m b) out) ∧ Hid (Below w.heap.size w wr) ∧ Hid (g = true → out ++ l.drop j = insS l s) ∧ Hid (g = false → out = l.take j ∧ ∀ y ∈ l.take j, sLe y s = true)) (fun _ _ i _ => n - (intOf i).toNat)
  case atStart => exact ⟨0, 0, _, _, [], false, Nat.zero_le _, rfl, rfl, rfl, by omega, rfl, Own.lit0 w 9 1 strEnc, (Below.refl _ _).alloc (Nat.le_refl _) _, (fun h => by cases h), (fun _ => ⟨by simp, fun y hy => by simp at hy⟩)⟩
  case round =>
    obtain ⟨j, m, B, b, out, g, hj, rfl, rfl, rfl, hm, Hm, Ho, HB, Ht, Hf⟩ := hrel
    by_cases hlt : j < n
    · obtain ⟨x, hx⟩ : ∃ x, l[j]? = some x := ⟨_, List.getElem?_eq_getElem (by have := Hl.out; omega)⟩
      obtain ⟨ad, rfl, hab, c0⟩ := (Hr.out.below HB.out).one hx rfl
      have hlt' : j < l.length := by have := Hl.out; omega
      have hd : l.drop j = x :: l.drop (j + 1) := by
        have h2 := List.drop_eq_getElem_cons hlt'
        rw [(List.getElem?_eq_some_iff.1 hx).2] at h2
        exact h2
      have ht : l.take (j + 1) = l.take j ++ [x] := by rw [List.take_add_one, hx]; rfl
      have hs0 : l = l.take j ++ x :: l.drop (j + 1) := by rw [← hd, List.take_append_drop]
      cases g
      · have Hf1 := Lib.hid (Hf.out rfl)
        have Hm1 : Hid (m = j) := Hm.out
        have hmj : m ≤ j := by have := Hm1.out; omega
        cases hq : sLe x s
        · have hq' := less_sLe s x
          rw [hq] at hq'
          simp only [Bool.not_false] at hq'
          have HR : Hid ((out ++ [s]) ++ [x] ++ l.drop (j + 1) = insS l s) := by
            have e1 := insS_skip (l.take j) (x :: l.drop (j + 1)) Hf1.out.2
            rw [← hs0] at e1
            show _ = _
            rw [e1, Hf1.out.1, show insS (x :: l.drop (j + 1)) s = s :: x :: l.drop (j + 1) from if_neg (by rw [hq]; simp)]
            simp
          have Hx := Lib.hid hx
          clear hd ht hs0 hx hq
          go_wp2_with (first | (at_builtin; refine st_append1 (.tmp 25) (.tmp 27) 43 9 st_info Try.underlying43 rfl (by decide) rfl rfl s rfl Ho.out.len (Ho.out.alloc _) rfl strEnc_len (st_cells s rfl) (st_one _) (by omega) (by omega) (by have := HB.out.size; simp; omega) ?_; intro pg pc pw po ph pat; have pB := Lib.hid (below_ownS (HB.out.alloc HB.out.size (Obj.cells #[.string s] 9)) ph (Ho.out.alloc _) (Nat.le_refl _) (by have := HB.out.size; simp; omega)); obtain ⟨bd, e2, hbb, d0⟩ := (Hr.out.below pB.out).one Hx.out rfl; injection e2 with e2; subst e2; have pO := Lib.hid po) | (at_builtin; refine st_append1 (.tmp 29) (.tmp 34) 43 9 st_info Try.underlying43 rfl (by decide) rfl rfl x rfl pO.out.len (pO.out.alloc _) rfl strEnc_len (st_cells x rfl) (st_one _) (by omega) (by omega) (by have := pB.out.size; simp; omega) ?_; intro rg rc rw ro rh rat))
          clear po ph pat
          have rB := Lib.hid (below_ownS (pB.out.alloc pB.out.size (Obj.cells #[.string x] 9)) rh (pO.out.alloc _) (Nat.le_refl _) (by have := pB.out.size; simp; omega))
          have rO := Lib.hid ro
          clear ro rh rat
          go_roundw
          case rel => exact ⟨j + 1, m + 1 + 1, _, rc, _, true, by omega, by go_num, rfl, rfl, by omega, by show _ = _; rw [Hm1.out]; rfl, rO.out, rB.out, (fun _ => HR.out), (fun h => by cases h)⟩
          case measure => simp [intOf]; omega
        · have hq' := less_sLe s x
          rw [hq] at hq'
          simp only [Bool.not_true] at hq'
          have HR : Hid (out ++ [x] = l.take (j + 1) ∧ ∀ y ∈ l.take (j + 1), sLe y s = true) := by
            refine ⟨by rw [ht, Hf1.out.1], fun y hy => ?_⟩
            rw [ht] at hy
            rcases List.mem_append.1 hy with hy | hy
            · exact Hf1.out.2 y hy
            · simp at hy; subst hy; exact hq
          clear hd ht hs0 hx hq
          go_wp2_with (at_builtin; refine st_append1 (.tmp 29) (.tmp 34) 43 9 st_info Try.underlying43 rfl (by decide) rfl rfl x rfl Ho.out.len (Ho.out.alloc _) rfl strEnc_len (st_cells x rfl) (st_one _) (by omega) (by omega) (by have := HB.out.size; simp; omega) ?_; intro rg rc rw ro rh rat)
          have rB := Lib.hid (below_ownS (HB.out.alloc HB.out.size (Obj.cells #[.string x] 9)) rh (Ho.out.alloc _) (Nat.le_refl _) (by have := HB.out.size; simp; omega))
          have rO := Lib.hid ro
          clear ro rh rat
          go_roundw
          case rel => exact ⟨j + 1, m + 1, _, rc, _, false, by omega, by go_num, rfl, rfl, by omega, by show _ = _; rw [Hm1.out]; rfl, rO.out, rB.out, (fun h => by cases h), (fun _ => HR.out)⟩
          case measure => simp [intOf]; omega
      · have Hm1 : Hid (m = j + 1) := Hm.out
        have hmj : m ≤ j + 1 := by have := Hm1.out; omega
        have HR : Hid (out ++ [x] ++ l.drop (j + 1) = insS l s) := by
          have := Ht.out rfl
          rw [hd] at this
          show _ = _
          rw [← this]; simp
        clear hd ht hs0 hx
        go_wp2_with (at_builtin; refine st_append1 (.tmp 29) (.tmp 34) 43 9 st_info Try.underlying43 rfl (by decide) rfl rfl x rfl Ho.out.len (Ho.out.alloc _) rfl strEnc_len (st_cells x rfl) (st_one _) (by omega) (by omega) (by have := HB.out.size; simp; omega) ?_; intro rg rc rw ro rh rat)
        have rB := Lib.hid (below_ownS (HB.out.alloc HB.out.size (Obj.cells #[.string x] 9)) rh (Ho.out.alloc _) (Nat.le_refl _) (by have := HB.out.size; simp; omega))
        have rO := Lib.hid ro
        clear ro rh rat
        go_roundw
        case rel => exact ⟨j + 1, m + 1, _, rc, _, true, by omega, by go_num, rfl, rfl, by omega, by show _ = _; rw [Hm1.out]; rfl, rO.out, rB.out, (fun _ => HR.out), (fun h => by cases h)⟩
        case measure => simp [intOf]; omega
    · obtain rfl : j = n := by omega
      have hdn : l.drop j = [] := List.drop_eq_nil_of_le (by rw [Hl.out]; exact Nat.le_refl _)
      have htk : l.take j = l := List.take_of_length_le (by rw [Hl.out]; exact Nat.le_refl _)
      cases g
      · have Hf1 := Lib.hid (Hf.out rfl)
        obtain rfl : m = j := Hm.out
        have HR : Hid (out ++ [s] = insS l s) := by
          have h := Hf1.out
          rw [htk] at h
          have e1 := insS_skip l [] h.2
          rw [List.append_nil] at e1
          show _ = _
          rw [e1, h.1]; rfl
        clear hdn htk
        go_wp2_with (at_builtin; refine st_append1 (.tmp 38) (.tmp 40) 43 9 st_info Try.underlying43 rfl (by decide) rfl rfl s rfl Ho.out.len (Ho.out.alloc _) rfl strEnc_len (st_cells s rfl) (st_one _) (by omega) (by omega) (by have := HB.out.size; simp; omega) ?_; intro rg rc rw ro rh rat)
        have rB := Lib.hid (below_ownS (HB.out.alloc HB.out.size (Obj.cells #[.string s] 9)) rh (Ho.out.alloc _) (Nat.le_refl _) (by have := HB.out.size; simp; omega))
        have rO := Lib.hid ro
        clear ro rh rat
        go_ret
        exact ⟨_, rc, rfl, by have := rO.out; rw [HR.out] at this; exact this, rB.out⟩
      · obtain rfl : m = j + 1 := Hm.out
        have HR : Hid (out = insS l s) := by
          have := Ht.out rfl
          rw [hdn, List.append_nil] at this
          exact this
        clear hdn htk
        go_wp2
        go_ret
        exact ⟨B, b, rfl, by have := Ho.out; rw [HR.out] at this; exact this, HB.out⟩
end Go.Proofs.Ytdpmjohfjpohjaa
