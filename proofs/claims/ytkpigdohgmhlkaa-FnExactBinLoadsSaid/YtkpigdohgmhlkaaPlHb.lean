/-
  Letters held and let go: the program's and the reference's.
-/
import Derived.Test.YtkpigdohgmhlkaaPlH
namespace Go.Proofs.Ytkpigdohgmhlkaa
open Go.RowKit

/-- append of one element, and where the new slice lies. -/
theorem wpList_append1L {P : Program} {α : Type} {w : World} {ops : Array Oper} {rest : List Oper} {o : Oper} {a : Act} {Q : Exit → Act → World → Prop} {enc : α → List Value} (s x : Operand) (t e : TypeId) {z : Value} {size bytes : Nat}
    (hinfo : (P.info? e).map (fun i => (i.zero, i.size, i.bytes)) = some (some z, size, bytes)) (ht : P.underlying t = some (.slice e)) (hzs : z.cells.size = size) (hsz : 0 < size)
    (hgd : o.guard = none) (ho : o.op = .call { callee := .builtin .append, args := #[s, x], argTypes := #[t, t] })
    {base k : Nat} {v : Value} {l : List α} (y : α) (hs : a.eval s = v) (hk : k = l.length) (hown : Own w base e size enc v l) {ad : Addr} {c : Nat} (hx : a.eval x = .slice (some ad) 1 c) (henc : ∀ x, (enc x).length = size)
    (hy : ∀ j u, (enc y)[j]? = some u → w.cell? (ad.add j) = some u) (h1 : ∀ u ∈ enc y, u.oneCell' = true) (hl : (k + 1) * bytes ≤ 140737488355328) (h63 : k + 1 ≤ 9223372036854775807) (hbase : base ≤ w.heap.size)
    (h : ∀ g c' w', Own w' base e size enc (.slice (some ⟨g, 0, none⟩) (k + 1) c') (l ++ [y]) → w.grownBy w' v.ownBlock → (v.ownBlock = some g ∨ w.heap.size ≤ g) → wpList P ops Q rest (a.put o.dst (.slice (some ⟨g, 0, none⟩) (k + 1) c')) w') : wpList P ops Q (o :: rest) a w := by
  subst hk
  obtain ⟨i0, hi, hz0, hz1, hz2⟩ := info_parts hinfo
  refine wpList_append_lies w hgd s x t ho base e i0 z size bytes ht hi hz0 hz1 hz2 hzs hsz v l.length (l.flatMap enc) hs hown ad 1 c (enc y) hx (by rw [henc, Nat.one_mul]) hy h1 (by omega) (by unfold maxLen; omega) hl hbase _ rfl ?_
  intro g cap w' hown' hg' hat hlt
  exact h g cap w' (own_push hown' rfl) hg' (by rcases hat with h' | h'; exact .inl h'; exact .inr (by omega))

/-- Two lists of letters and a Bool, as a result. -/
structure LtR where
  f : List Lt
  k : List Lt
  ok : Bool
def LtRet2 (r : LtR) (w : World) (e : Ending) (w' : World) : Prop :=
  ∃ A n c A' n' c', e = .returned (.tuple #[.slice A n c, .slice A' n' c', .bool r.ok]) ∧ Own w' w.heap.size 82 2 ltEnc (.slice A n c) r.f ∧ Own w' w.heap.size 82 2 ltEnc (.slice A' n' c') r.k ∧ (∀ g, (Value.slice A n c).ownBlock = some g → (Value.slice A' n' c').ownBlock = some g → False) ∧ Below w.heap.size w w'
def noLtR : LtR := ⟨[], [], false⟩
theorem noLt (w : World) {w' : World} (hb : Below w.heap.size w w') : LtRet2 noLtR w (.returned (.tuple #[.slice none 0 0, .slice none 0 0, .bool false])) w' :=
  ⟨none, 0, 0, none, 0, 0, rfl, Own.nil_ _ _ _ _ _, Own.nil_ _ _ _ _ _, (fun g e => by cases e), hb⟩

def freeOf (h : List Str) (m : List Lt) : List Lt := m.filter fun x => !strHas h x.2
def keptOf (h : List Str) (m : List Lt) : List Lt := m.filter fun x => strHas h x.2
def holdR (m : List Lt) (h : List Str) : LtR := if batchOk m && heldOkB h then ⟨freeOf h m, keptOf h m, true⟩ else noLtR
theorem take_succ_at {α : Type} {m : List α} {k : Nat} {x : α} (hx : m[k]? = some x) : m.take (k + 1) = m.take k ++ [x] := by
  rw [List.take_add_one, hx]; rfl
theorem free_step {h : List Str} {m : List Lt} {k : Nat} {x : Lt} {v : Bool} (hx : m[k]? = some x) (hv : strHas h x.2 = v) : freeOf h (m.take (k + 1)) = if v then freeOf h (m.take k) else freeOf h (m.take k) ++ [x] := by
  unfold freeOf
  rw [take_succ_at hx, List.filter_append]
  cases v <;> simp [hv]
theorem kept_step {h : List Str} {m : List Lt} {k : Nat} {x : Lt} {v : Bool} (hx : m[k]? = some x) (hv : strHas h x.2 = v) : keptOf h (m.take (k + 1)) = if v then keptOf h (m.take k) ++ [x] else keptOf h (m.take k) := by
  unfold keptOf
  rw [take_succ_at hx, List.filter_append]
  cases v <;> simp [hv]
theorem free_len (h : List Str) (m : List Lt) : (freeOf h m).length ≤ m.length := List.length_filter_le _ _
theorem kept_len (h : List Str) (m : List Lt) : (keptOf h m).length ≤ m.length := List.length_filter_le _ _
theorem holdR_len {m : List Lt} {h : List Str} (hm : m.length ≤ 1048576) : (holdR m h).f.length ≤ 1048576 ∧ (holdR m h).k.length ≤ 1048576 := by
  unfold holdR
  split
  · exact ⟨Nat.le_trans (free_len _ _) hm, Nat.le_trans (kept_len _ _) hm⟩
  · exact ⟨Nat.zero_le _, Nat.zero_le _⟩

set_option maxHeartbeats 2000000 in
set_option maxRecDepth 100000 in
theorem implHoldBatch (A B : Option Addr) (m : List Lt) (l : List Str) (k capm n cap : Nat) (hk : k = m.length) (hl : n = l.length) (hcapm : k ≤ capm) (w : World) (hkn : k ≤ 16777216) (hn : n ≤ 16777216) (hsm : ∀ x ∈ m, x.2.size ≤ 1048576) (hs : ∀ x ∈ l, x.size ≤ 1048576) (hm : Rd w 2 ltEnc A m) (h : Rd w 1 strEnc B l) :
    Calls Try.prog 56 #[.slice A k capm, .slice B n cap] w fun e w' => LtRet2 (holdR m l) w e w' := by
  have Hl := Lib.hid hl
  have Hk := Lib.hid hk
  have Hr := Lib.hid h
  have Hm := Lib.hid hm
  have Hs := Lib.hid hs
  have Hsm := Lib.hid hsm
  clear h hs hl hk hm hsm
  cases hv : batchOk m
  · have Hd : Hid (holdR m l = noLtR) := by show holdR _ _ = _; unfold holdR; rw [hv]; rfl
    go_enter Try.func56, Try.ntmps56
    go_wp2_with fail
    refine (implBatchValid A m _ _ Hk.out hcapm _ hkn Hsm.out Hm.out).mono ?_
    rw [hv]
    rintro e w1 ⟨rfl, hb⟩
    go_wp2
    go_ret3
    rw [Hd.out]
    exact noLt w hb
  · cases hw : heldOkB l
    · have Hd : Hid (holdR m l = noLtR) := by show holdR _ _ = _; unfold holdR; rw [hv, hw]; rfl
      go_enter Try.func56, Try.ntmps56
      go_wp2_with fail
      refine (implBatchValid A m _ _ Hk.out hcapm _ hkn Hsm.out Hm.out).mono ?_
      rw [hv]
      rintro e w1 ⟨rfl, hb⟩
      go_wp2_with (go_at_call 91; refine (implHeldValid B l _ _ Hl.out _ hn Hs.out (Hr.out.below hb)).mono ?_; rw [hw]; rintro e w2 ⟨rfl, rfl⟩)
      go_ret3
      rw [Hd.out]
      exact noLt w hb
    · have Hd : Hid (holdR m l = ⟨freeOf l m, keptOf l m, true⟩) := by show holdR _ _ = _; unfold holdR; rw [hv, hw]; rfl
      go_enter Try.func56, Try.ntmps56
      go_wp2_with fail
      refine (implBatchValid A m _ _ Hk.out hcapm _ hkn Hsm.out Hm.out).mono ?_
      rw [hv]
      rintro e w1 ⟨rfl, hb⟩
      go_wp2_with (go_at_call 91; refine (implHeldValid B l _ _ Hl.out _ hn Hs.out (Hr.out.below hb)).mono ?_; rw [hw]; rintro e w2 ⟨rfl, rfl⟩)
      go_loopw [21, 7, 8] (fun i f t wr => ∃ j : Nat, j ≤ k ∧ i = .int .i64 j ∧ ∃ A1 n1 c1 A2 n2 c2, f = .slice A1 n1 c1 ∧ t = .slice A2 n2 c2 ∧ n1 ≤ j ∧ n2 ≤ j ∧ Below w.heap.size w wr ∧ Hid (Own wr w.heap.size 82 2 ltEnc (.slice A1 n1 c1) (freeOf l (m.take j))) ∧ Hid (Own wr w.heap.size 82 2 ltEnc (.slice A2 n2 c2) (keptOf l (m.take j))) ∧ Hid (∀ g, (Value.slice A1 n1 c1).ownBlock = some g → (Value.slice A2 n2 c2).ownBlock = some g → False)) (fun i _ _ _ => k - (intOf i).toNat)
      case atStart => exact ⟨0, Nat.zero_le _, rfl, none, 0, 0, none, 0, 0, rfl, rfl, Nat.le_refl _, Nat.le_refl _, hb, Own.nil_ _ _ _ _ _, Own.nil_ _ _ _ _ _, fun g e => by cases e⟩
      case round =>
        clear hb
        obtain ⟨j, hj, rfl, A1, n1, c1, A2, n2, c2, rfl, rfl, hn1, hn2, hb, H1, H2, H3⟩ := hrel
        by_cases hlt : j < k
        · obtain ⟨x, hx⟩ : ∃ x, m[j]? = some x := ⟨_, List.getElem?_eq_getElem (by have := Hk.out; omega)⟩
          obtain ⟨ad, rfl, hab, d0, d1⟩ := (Hm.out.below hb).two hx rfl
          have hbi := hb.alloc hb.size (Obj.cells #[.int .i64 x.1, .string x.2] 82)
          have Hr2 := Lib.hid (Hr.out.below hbi)
          cases hv : strHas l x.2
          · have F1 : Hid (freeOf l (m.take (j + 1)) = freeOf l (m.take j) ++ [x]) := by show _ = _; rw [free_step hx hv]; rfl
            have F2 : Hid (keptOf l (m.take (j + 1)) = keptOf l (m.take j)) := by show _ = _; rw [kept_step hx hv]; rfl
            have Hv := Lib.hid hv
            clear hv hx
            go_wp2_with (first
              | (go_at_call 82; refine (sliceContains _ l _ _ Hl.out _ _ hn Hr2.out).mono ?_; rw [Hv.out]; rintro e w1 ⟨rfl, rfl⟩)
              | (at_builtin; refine wpList_append1L (.tmp 33) (.tmp 35) 45 82 lt_info Try.underlying45 rfl (by decide) rfl rfl x rfl H1.out.len ((H1.out.alloc _).alloc _) rfl ltEnc_len (ltEnc_cells x (by simp)) (ltEnc_one x) (by omega) (by omega) (by have := hb.size; simp; omega) ?_; intro g3 c3 w3 ho3 hg3 hat3))
            have hb3 := below_own (hbi.alloc hbi.size (Obj.cells #[.int .i64 x.1, .string x.2] 82)) hg3 ((H1.out.alloc _).alloc _) (Nat.le_refl _) (by have := hb.size; simp; omega)
            go_roundw
            case rel => exact ⟨j + 1, by omega, by go_num, _, _, _, _, _, _, rfl, rfl, by omega, by omega, hb3, by rw [F1.out]; exact ho3, by rw [F2.out]; exact ((H2.out.alloc _).alloc _).apartV hg3 (fun k e e' => H3.out k e e'), fun g e e' => by
              injection e with e
              rcases hat3 with h | h
              · exact H3.out g (h.trans (congrArg some e)) e'
              · have := (H2.out.lt g e').2
                have e : g3 = g := e
                simp at h
                omega⟩
            case measure => simp [intOf]; omega
          · have F1 : Hid (freeOf l (m.take (j + 1)) = freeOf l (m.take j)) := by show _ = _; rw [free_step hx hv]; rfl
            have F2 : Hid (keptOf l (m.take (j + 1)) = keptOf l (m.take j) ++ [x]) := by show _ = _; rw [kept_step hx hv]; rfl
            have Hv := Lib.hid hv
            clear hv hx
            go_wp2_with (first
              | (go_at_call 82; refine (sliceContains _ l _ _ Hl.out _ _ hn Hr2.out).mono ?_; rw [Hv.out]; rintro e w1 ⟨rfl, rfl⟩)
              | (at_builtin; refine wpList_append1L (.tmp 29) (.tmp 31) 45 82 lt_info Try.underlying45 rfl (by decide) rfl rfl x rfl H2.out.len ((H2.out.alloc _).alloc _) rfl ltEnc_len (ltEnc_cells x (by simp)) (ltEnc_one x) (by omega) (by omega) (by have := hb.size; simp; omega) ?_; intro g3 c3 w3 ho3 hg3 hat3))
            have hb3 := below_own (hbi.alloc hbi.size (Obj.cells #[.int .i64 x.1, .string x.2] 82)) hg3 ((H2.out.alloc _).alloc _) (Nat.le_refl _) (by have := hb.size; simp; omega)
            go_roundw
            case rel => exact ⟨j + 1, by omega, by go_num, _, _, _, _, _, _, rfl, rfl, by omega, by omega, hb3, by rw [F1.out]; exact ((H1.out.alloc _).alloc _).apartV hg3 (fun k e e' => H3.out k e' e), by rw [F2.out]; exact ho3, fun g e e' => by
              injection e' with e'
              rcases hat3 with h | h
              · exact H3.out g e (h.trans (congrArg some e'))
              · have := (H1.out.lt g e).2
                have e' : g3 = g := e'
                simp at h
                omega⟩
            case measure => simp [intOf]; omega
        · obtain rfl : j = k := by omega
          go_wp2
          go_ret3
          rw [Hd.out]
          have t := List.take_of_length_le (l := m) (i := j) (by rw [Hk.out]; exact Nat.le_refl _)
          exact ⟨A1, n1, c1, A2, n2, c2, rfl, by have := H1.out; rw [t] at this; exact this, by have := H2.out; rw [t] at this; exact this, H3.out, hb⟩

/-- Good so far? -/
def goodAt (m : List Lt) (l : List Str) (i : Nat) : Bool := batchOk m && decide (l.length ≤ 30) && (l.take i).all codeOk
theorem goodAt_succ {m : List Lt} {l : List Str} {i : Nat} {x : Str} (hx : l[i]? = some x) : goodAt m l (i + 1) = (goodAt m l i && codeOk x) := by
  unfold goodAt
  rw [take_succ_at hx, List.all_append, Bool.and_assoc (batchOk m && decide (l.length ≤ 30))]
  simp
theorem goodAt_all {m : List Lt} {l : List Str} {i : Nat} (h : i = l.length) : goodAt m l i = (batchOk m && heldOkB l) := by
  unfold goodAt heldOkB
  rw [h, List.take_length, Bool.and_assoc]
theorem own_lit1 (w : World) (e : TypeId) (size : Nat) {α : Type} (enc : α → List Value) (o : Obj) : Own ((w.alloc o).alloc (.cells #[] e)) w.heap.size e size enc (.slice (some ⟨w.heap.size + 1, 0, none⟩) 0 0) [] := by
  have h := (Own.lit0 (w.alloc o) e size enc).lower (base' := w.heap.size) (by simp)
  simpa using h

set_option maxHeartbeats 2000000 in
set_option maxRecDepth 100000 in
theorem specHoldBatch (A B : Option Addr) (m : List Lt) (l : List Str) (k capm n cap : Nat) (hk : k = m.length) (hl : n = l.length) (w : World) (hkn : k ≤ 16777216) (hn : n ≤ 16777216) (hsm : ∀ x ∈ m, x.2.size ≤ 1048576) (hs : ∀ x ∈ l, x.size ≤ 1048576) (hm : Rd w 2 ltEnc A m) (h : Rd w 1 strEnc B l) :
    Calls Try.prog 54 #[.slice A k capm, .slice B n cap] w fun e w' => LtRet2 (holdR m l) w e w' := by
  have Hl := Lib.hid hl
  have Hk := Lib.hid hk
  have Hr := Lib.hid h
  have Hm := Lib.hid hm
  have Hs := Lib.hid hs
  have Hsm := Lib.hid hsm
  clear h hs hl hk hm hsm
  have hb2 := ((Below.refl w.heap.size w).alloc (Nat.le_refl _) (Obj.cells #[] 82)).alloc (by simp) (Obj.cells #[] 82)
  have O1 := Lib.hid ((Own.lit0 w 82 2 ltEnc).alloc (Obj.cells #[] 82))
  have O2 := Lib.hid (own_lit1 w 82 2 ltEnc (Obj.cells #[] 82))
  cases hbo : batchOk m
  all_goals
    have G0 : Hid (goodAt m l 0 = (batchOk m && decide ((n : Int) ≤ 30))) := by
      show _ = _
      unfold goodAt
      rw [List.take_zero, List.all_nil, Bool.and_true, ← Hl.out]
      congr 1
      rw [decide_eq_decide]
      omega
    rw [hbo] at G0
    go_enter Try.func54, Try.ntmps54
    go_wp2_with fail
    refine (specBatchValid A m _ _ Hk.out _ hkn Hsm.out (Hm.out.below hb2)).mono ?_
    rw [hbo]
    rintro e w1 ⟨rfl, hbx⟩
    have hb := below_step hb2 hbx
    have P1 := Lib.hid (O1.out.below hbx)
    have P2 := Lib.hid (O2.out.below hbx)
    clear hbx hb2 O1 O2 hbo
    go_wp2_with fail
    go_loopw [10, 9] (fun i t wr => ∃ j : Nat, j ≤ n ∧ i = .int .i64 j ∧ ∃ g, t = .bool g ∧ wr = w1 ∧ Hid (g = goodAt m l j)) (fun i _ _ => n - (intOf i).toNat)
    case atStart => exact ⟨0, Nat.zero_le _, rfl, _, rfl, rfl, G0.out.symm⟩
    case round =>
      obtain ⟨j, hj, rfl, g, rfl, rfl, G⟩ := hrel
      by_cases hlt : j < n
      · obtain ⟨x, hx⟩ : ∃ x, l[j]? = some x := ⟨_, List.getElem?_eq_getElem (by have := Hl.out; omega)⟩
        have hs1 := Hs.out x (List.mem_of_getElem? hx)
        obtain ⟨ad, rfl, hab, c0⟩ := (Hr.out.below hb).one hx rfl
        have Gs := Lib.hid (goodAt_succ (m := m) hx)
        clear hx
        cases g
        · go_wp2
          go_roundw
          case rel => exact ⟨j + 1, by omega, by go_num, _, rfl, (by first | exact trivial | rfl), by rw [Gs.out, ← G.out]; rfl⟩
          case measure => simp [intOf]; omega
        · obtain ⟨v, hv⟩ : ∃ v, codeOk x = v := ⟨_, rfl⟩
          have Hv := Lib.hid hv
          clear hv
          go_wp2_with (go_at_call 62; refine (specCodeValid _ (by omega) _).mono ?_; rw [Hv.out]; rintro e w1 ⟨rfl, rfl⟩)
          go_roundw
          case rel => exact ⟨j + 1, by omega, by go_num, _, rfl, (by first | exact trivial | rfl), by rw [Gs.out, ← G.out, Hv.out]; rfl⟩
          case measure => simp [intOf]; omega
      · obtain rfl : j = n := by omega
        have Gn : Hid (g = (batchOk m && heldOkB l)) := G.out.trans (goodAt_all Hl.out)
        cases g
        · have Hd : Hid (holdR m l = noLtR) := by show holdR _ _ = _; unfold holdR; rw [← Gn.out]; rfl
          go_wp2
          go_loopw [11, 7, 8] (fun i f t wi => i = .int .i64 0 ∧ f = .slice (some ⟨w.heap.size, 0, none⟩) 0 0 ∧ t = .slice (some ⟨w.heap.size + 1, 0, none⟩) 0 0 ∧ wi = wr) (fun _ _ _ _ => 0)
          case atStart => exact ⟨rfl, rfl, rfl, rfl⟩
          case round =>
            obtain ⟨rfl, rfl, rfl, rfl⟩ := hrel
            by_cases hk0 : 0 < k
            all_goals
              go_wp2
              go_ret3
              rw [Hd.out]
              exact ⟨_, 0, 0, _, 0, 0, rfl, P1.out, P2.out, (fun g e e' => by injection e with e; injection e' with e'; simp at e e'; omega), hb⟩
        · have Hd : Hid (holdR m l = ⟨freeOf l m, keptOf l m, true⟩) := by show holdR _ _ = _; unfold holdR; rw [← Gn.out]; rfl
          go_wp2
          go_loopw [11, 7, 8] (fun i f t wr => ∃ j : Nat, j ≤ k ∧ i = .int .i64 j ∧ ∃ A1 n1 c1 A2 n2 c2, f = .slice A1 n1 c1 ∧ t = .slice A2 n2 c2 ∧ n1 ≤ j ∧ n2 ≤ j ∧ Below w.heap.size w wr ∧ Hid (Own wr w.heap.size 82 2 ltEnc (.slice A1 n1 c1) (freeOf l (m.take j))) ∧ Hid (Own wr w.heap.size 82 2 ltEnc (.slice A2 n2 c2) (keptOf l (m.take j))) ∧ Hid (∀ g, (Value.slice A1 n1 c1).ownBlock = some g → (Value.slice A2 n2 c2).ownBlock = some g → False)) (fun i _ _ _ => k - (intOf i).toNat)
          case atStart => exact ⟨0, Nat.zero_le _, rfl, _, 0, 0, _, 0, 0, rfl, rfl, Nat.le_refl _, Nat.le_refl _, hb, P1.out, P2.out, (fun g e e' => by injection e with e; injection e' with e'; simp at e e'; omega)⟩
          case round =>
            clear hb P1 P2
            obtain ⟨j, hj, rfl, A1, n1, c1, A2, n2, c2, rfl, rfl, hn1, hn2, hb, H1, H2, H3⟩ := hrel
            by_cases hlt : j < k
            · obtain ⟨x, hx⟩ : ∃ x, m[j]? = some x := ⟨_, List.getElem?_eq_getElem (by have := Hk.out; omega)⟩
              obtain ⟨ad, rfl, hab, d0, d1⟩ := (Hm.out.below hb).two hx rfl
              have Hr2 := Lib.hid (Hr.out.below hb)
              obtain ⟨v, hv⟩ : ∃ v, idxInt (strIdx l x.2) = v := ⟨_, rfl⟩
              have hvd := strHas_ge l x.2
              rw [hv] at hvd
              have Hvi := Lib.hid hv
              clear hv
              cases hv : strHas l x.2
              · have F1 : Hid (freeOf l (m.take (j + 1)) = freeOf l (m.take j) ++ [x]) := by show _ = _; rw [free_step hx hv]; rfl
                have F2 : Hid (keptOf l (m.take (j + 1)) = keptOf l (m.take j)) := by show _ = _; rw [kept_step hx hv]; rfl
                rw [hv] at hvd
                clear hv hx
                go_wp2_with (first
                  | (go_at_call 67; refine (specRank _ l _ _ Hl.out _ _ hn Hr2.out).mono ?_; rw [Hvi.out]; rintro e w1 ⟨rfl, rfl⟩)
                  | (at_builtin; refine wpList_append1L (.tmp 59) (.tmp 64) 45 82 lt_info Try.underlying45 rfl (by decide) rfl rfl x rfl H1.out.len (H1.out.alloc _) rfl ltEnc_len (ltEnc_cells x rfl) (ltEnc_one x) (by omega) (by omega) (by have := hb.size; simp; omega) ?_; intro g3 c3 w3 ho3 hg3 hat3))
                have hb3 := below_own (hb.alloc hb.size (Obj.cells #[.int .i64 x.1, .string x.2] 82)) hg3 (H1.out.alloc _) (Nat.le_refl _) (by have := hb.size; simp; omega)
                go_roundw
                case rel => exact ⟨j + 1, by omega, by go_num, _, _, _, _, _, _, rfl, rfl, by omega, by omega, hb3, by rw [F1.out]; exact ho3, by rw [F2.out]; exact (H2.out.alloc _).apartV hg3 (fun k e e' => H3.out k e e'), fun g e e' => by
                  injection e with e
                  rcases hat3 with h | h
                  · exact H3.out g (h.trans (congrArg some e)) e'
                  · have := (H2.out.lt g e').2
                    have e : g3 = g := e
                    simp at h
                    omega⟩
                case measure => simp [intOf]; omega
              · have F1 : Hid (freeOf l (m.take (j + 1)) = freeOf l (m.take j)) := by show _ = _; rw [free_step hx hv]; rfl
                have F2 : Hid (keptOf l (m.take (j + 1)) = keptOf l (m.take j) ++ [x]) := by show _ = _; rw [kept_step hx hv]; rfl
                rw [hv] at hvd
                clear hv hx
                go_wp2_with (first
                  | (go_at_call 67; refine (specRank _ l _ _ Hl.out _ _ hn Hr2.out).mono ?_; rw [Hvi.out]; rintro e w1 ⟨rfl, rfl⟩)
                  | (at_builtin; refine wpList_append1L (.tmp 52) (.tmp 57) 45 82 lt_info Try.underlying45 rfl (by decide) rfl rfl x rfl H2.out.len (H2.out.alloc _) rfl ltEnc_len (ltEnc_cells x rfl) (ltEnc_one x) (by omega) (by omega) (by have := hb.size; simp; omega) ?_; intro g3 c3 w3 ho3 hg3 hat3))
                have hb3 := below_own (hb.alloc hb.size (Obj.cells #[.int .i64 x.1, .string x.2] 82)) hg3 (H2.out.alloc _) (Nat.le_refl _) (by have := hb.size; simp; omega)
                go_roundw
                case rel => exact ⟨j + 1, by omega, by go_num, _, _, _, _, _, _, rfl, rfl, by omega, by omega, hb3, by rw [F1.out]; exact (H1.out.alloc _).apartV hg3 (fun k e e' => H3.out k e' e), by rw [F2.out]; exact ho3, fun g e e' => by
                  injection e' with e'
                  rcases hat3 with h | h
                  · exact H3.out g e (h.trans (congrArg some e'))
                  · have := (H1.out.lt g e).2
                    have e' : g3 = g := e'
                    simp at h
                    omega⟩
                case measure => simp [intOf]; omega
            · obtain rfl : j = k := by omega
              go_wp2
              go_ret3
              rw [Hd.out]
              have t := List.take_of_length_le (l := m) (i := j) (by rw [Hk.out]; exact Nat.le_refl _)
              exact ⟨A1, n1, c1, A2, n2, c2, rfl, by have := H1.out; rw [t] at this; exact this, by have := H2.out; rw [t] at this; exact this, H3.out, hb⟩
end Go.Proofs.Ytkpigdohgmhlkaa
