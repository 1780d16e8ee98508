/-
  Is a batch valid: the program's and the reference's.
-/
import Derived.Test.YtjibjoapbjojlaaPlB
namespace Go.Proofs.Ytjibjoapbjojlaa
open Go.RowKit

theorem lt_bad_id {l : List Lt} {k : Nat} {x : Lt} (hx : l[k]? = some x) (h : ¬ (1 ≤ x.1 ∧ x.1 ≤ 9999)) : batchOk l = false :=
  batchOk_bad (List.getElem?_eq_some_iff.1 hx).1 (by rw [ltOkAt_eq hx, decide_eq_false h]; rfl)
theorem lt_bad_code {l : List Lt} {k : Nat} {x : Lt} (hx : l[k]? = some x) (h : codeOk x.2 = false) : batchOk l = false :=
  batchOk_bad (List.getElem?_eq_some_iff.1 hx).1 (by rw [ltOkAt_eq hx, h, Bool.and_false]; rfl)
theorem lt_bad_old {l : List Lt} {k j : Nat} {x y : Lt} (hx : l[k]? = some x) (hj : j < k) (hy : l[j]? = some y) (h : y.1 = x.1) : batchOk l = false :=
  batchOk_bad (List.getElem?_eq_some_iff.1 hx).1 (by rw [ltOkAt_eq hx, idNew_bad hj hy h, Bool.and_false])
theorem lt_good {l : List Lt} {k : Nat} {x : Lt} (hx : l[k]? = some x) (h1 : 1 ≤ x.1 ∧ x.1 ≤ 9999) (h2 : codeOk x.2 = true) (h3 : ∀ (j : Nat) (y : Lt), j < k → l[j]? = some y → ¬ y.1 = x.1) : ltOkAt l k = true := by
  rw [ltOkAt_eq hx, decide_eq_true h1, h2, idNew_iff.2 h3]; rfl

theorem cell_alloc {w : World} {a : Addr} {v : Value} (h : w.cell? a = some v) (o : Obj) : (w.alloc o).cell? a = some v := below_cell ((Below.refl _ _).alloc (Nat.le_refl _) o) h

set_option maxHeartbeats 2000000 in
theorem implBatchValid (A : Option Addr) (l : List Lt) (n cap : Nat) (hl : n = l.length) (hcap : n ≤ cap) (w : World) (hn : n ≤ 16777216) (hs : ∀ x ∈ l, x.2.size ≤ 1048576) (h : Rd w 2 ltEnc A l) :
    Calls Try.prog 14 #[.slice A n cap] w fun e w' => e = .returned (.bool (batchOk l)) ∧ Below w.heap.size w w' := by
  have Hl := Lib.hid hl
  have Hr := Lib.hid h
  have Hs := Lib.hid hs
  by_cases hlong : n ≤ 60
  · clear h hs hl
    go_enter Try.func14, Try.ntmps14
    go_wp2
    go_loopw [12] (fun i wr => ∃ k : Nat, k ≤ n ∧ i = .int .i64 k ∧ Below w.heap.size w wr ∧ Hid (∀ j, j < k → ltOkAt l j = true)) (fun i _ => n - (intOf i).toNat)
    case atStart => exact ⟨0, Nat.zero_le _, rfl, Below.refl _ _, fun j hj => absurd hj (by omega)⟩
    case round =>
      obtain ⟨k, hk, rfl, hb, H⟩ := hrel
      by_cases hlt : k < n
      · obtain ⟨x, hx⟩ : ∃ x, l[k]? = some x := ⟨_, List.getElem?_eq_getElem (by have := Hl.out; omega)⟩
        have hs1 := Hs.out x (List.mem_of_getElem? hx)
        obtain ⟨ad, rfl, hab, c0, c1⟩ := (Hr.out.below hb).two hx rfl
        have Hx := Lib.hid hx
        clear hx
        have hb1 := hb.alloc hb.size (Obj.cells #[.int .i64 x.1, .string x.2] 39)
        by_cases h1 : 1 ≤ x.1
        · by_cases h2 : x.1 ≤ 9999
          · cases hc : codeOk x.2
            · have Hbad : Hid (batchOk l = false) := lt_bad_code Hx.out hc
              go_wp2_with (go_at_call 24; refine (implCodeValid _ (by omega) _).mono ?_; rw [hc]; rintro e w1 ⟨rfl, rfl⟩)
              go_ret
              exact ⟨ret_bool Hbad.out.symm, hb1⟩
            · have Hc := Lib.hid hc
              clear hc
              have hle : k ≤ cap := by omega
              go_wp2_with (go_at_call 24; refine (implCodeValid _ (by omega) _).mono ?_; rw [Hc.out]; rintro e w1 ⟨rfl, rfl⟩)
              go_loopw [35] (fun i wi => ∃ m : Nat, m ≤ k ∧ i = .int .i64 m ∧ Below w.heap.size w wi ∧ wi.cell? ⟨wr.heap.size, 0, none⟩ = some (.int .i64 x.1) ∧ Hid (∀ (j : Nat) (y : Lt), j < m → l[j]? = some y → ¬ y.1 = x.1)) (fun i _ => k - (intOf i).toNat)
              case atStart => exact ⟨0, Nat.zero_le _, rfl, hb1, World.cell?_alloc_at _ _ _ 0 rfl, fun j y hj => absurd hj (by omega)⟩
              case round =>
                clear c0 c1 hb1 hb
                obtain ⟨m, hm, rfl, hb, hbox, H2⟩ := hrel
                by_cases hlt2 : m < k
                · obtain ⟨y, hy⟩ : ∃ y, l[m]? = some y := ⟨_, List.getElem?_eq_getElem (by have := Hl.out; omega)⟩
                  obtain ⟨ad', e', hab', c0, c1⟩ := (Hr.out.below hb).two hy rfl
                  injection e' with e'
                  subst e'
                  have Hy := Lib.hid hy
                  clear hy
                  have hbi := hb.alloc hb.size (Obj.cells #[.int .i64 y.1, .string y.2] 39)
                  have hbox2 := cell_alloc hbox (Obj.cells #[.int .i64 y.1, .string y.2] 39)
                  by_cases he : y.1 = x.1
                  · have hq : (y.1 == x.1) = true := by simp [he]
                    have Hbad : Hid (batchOk l = false) := lt_bad_old Hx.out hlt2 Hy.out he
                    clear he
                    go_wp2
                    go_ret
                    exact ⟨ret_bool Hbad.out.symm, hbi⟩
                  · have hq : (y.1 == x.1) = false := by simp [he]
                    have He := Lib.hid he
                    clear he
                    go_wp2
                    go_roundw
                    case rel => exact ⟨m + 1, by omega, by go_num, hbi, hbox2, fun j z hj hz => if e : j = m then (by subst e; rw [Hy.out] at hz; injection hz with hz; subst hz; exact He.out) else H2.out j z (by omega) hz⟩
                    case measure => simp [intOf]; omega
                · obtain rfl : m = k := by omega
                  have Hok : Hid (ltOkAt l m = true) := lt_good Hx.out ⟨h1, h2⟩ Hc.out H2.out
                  go_wp2
                  go_roundw
                  case rel => exact ⟨m + 1, by omega, by go_num, hb, fun j hj => if e : j = m then e ▸ Hok.out else H.out j (by omega)⟩
                  case measure => simp [intOf]; omega
          · have Hbad : Hid (batchOk l = false) := lt_bad_id Hx.out (by omega)
            go_wp2
            go_ret
            exact ⟨ret_bool Hbad.out.symm, hb1⟩
        · have Hbad : Hid (batchOk l = false) := lt_bad_id Hx.out (by omega)
          go_wp2
          go_ret
          exact ⟨ret_bool Hbad.out.symm, hb1⟩
      · obtain rfl : k = n := by omega
        go_wp2
        go_ret
        exact ⟨ret_bool ((batchOk_iff l).2 ⟨by have := Hl.out; omega, fun i hi => H.out i (by have := Hl.out; omega)⟩).symm, hb⟩
  · have Hd := Lib.hid (batchOk_long (l := l) (by omega))
    clear h hs hl
    go_enter Try.func14, Try.ntmps14
    go_wp2
    go_ret
    exact ⟨ret_bool Hd.out.symm, Below.refl _ _⟩

set_option maxHeartbeats 2000000 in
theorem specBatchValid (A : Option Addr) (l : List Lt) (n cap : Nat) (hl : n = l.length) (w : World) (hn : n ≤ 16777216) (hs : ∀ x ∈ l, x.2.size ≤ 1048576) (h : Rd w 2 ltEnc A l) :
    Calls Try.prog 16 #[.slice A n cap] w fun e w' => e = .returned (.bool (batchOk l)) ∧ Below w.heap.size w w' := by
  have Hl := Lib.hid hl
  have Hr := Lib.hid h
  have Hs := Lib.hid hs
  clear h hs hl
  go_enter Try.func16, Try.ntmps16
  go_wp2
  go_loopw [3] (fun i wr => ∃ k : Nat, k ≤ n ∧ i = .int .i64 k ∧ Below w.heap.size w wr ∧ Hid (∀ j, j < k → ltOkAt l j = true)) (fun i _ => n - (intOf i).toNat)
  case atStart => exact ⟨0, Nat.zero_le _, rfl, Below.refl _ _, fun j hj => absurd hj (by omega)⟩
  case round =>
    obtain ⟨k, hk, rfl, hb, H⟩ := hrel
    by_cases hlt : k < n
    · obtain ⟨x, hx⟩ : ∃ x, l[k]? = some x := ⟨_, List.getElem?_eq_getElem (by have := Hl.out; omega)⟩
      have hs1 := Hs.out x (List.mem_of_getElem? hx)
      obtain ⟨ad, rfl, hab, c0, c1⟩ := (Hr.out.below hb).two hx rfl
      have Hx := Lib.hid hx
      clear hx
      cases hc : codeOk x.2
      · have Hbad : Hid (batchOk l = false) := lt_bad_code Hx.out hc
        go_wp2_with (go_at_call 25; refine (specCodeValid _ (by omega) _).mono ?_; rw [hc]; rintro e w1 ⟨rfl, rfl⟩)
        go_ret
        exact ⟨ret_bool Hbad.out.symm, hb⟩
      · have Hc := Lib.hid hc
        clear hc
        cases hi : decide (1 ≤ x.1 ∧ x.1 ≤ 9999)
        · have Hbad : Hid (batchOk l = false) := lt_bad_id Hx.out (by simpa using hi)
          have Hi := Lib.hid hi
          clear hi
          go_wp2_with (first
            | (go_at_call 25; refine (specCodeValid _ (by omega) _).mono ?_; rw [Hc.out]; rintro e w1 ⟨rfl, rfl⟩)
            | (go_at_call 26; refine (l1In_any _ _ _ _).mono ?_; rw [Hi.out]; rintro e w1 ⟨rfl, rfl⟩))
          go_ret
          exact ⟨ret_bool Hbad.out.symm, hb⟩
        · have Hin := Lib.hid (of_decide_eq_true hi)
          have Hi := Lib.hid hi
          clear hi
          go_wp2_with (first
            | (go_at_call 25; refine (specCodeValid _ (by omega) _).mono ?_; rw [Hc.out]; rintro e w1 ⟨rfl, rfl⟩)
            | (go_at_call 26; refine (l1In_any _ _ _ _).mono ?_; rw [Hi.out]; rintro e w1 ⟨rfl, rfl⟩))
          go_loopw [4] (fun i wi => ∃ m : Nat, m ≤ k ∧ i = .int .i64 m ∧ Below w.heap.size w wi ∧ Hid (∀ (j : Nat) (y : Lt), j < m → l[j]? = some y → ¬ y.1 = x.1)) (fun i _ => k - (intOf i).toNat)
          case atStart => exact ⟨0, Nat.zero_le _, rfl, hb, fun j y hj => absurd hj (by omega)⟩
          case round =>
            clear c0 c1 hb
            obtain ⟨m, hm, rfl, hb, H2⟩ := hrel
            by_cases hlt2 : m < k
            · obtain ⟨y, hy⟩ : ∃ y, l[m]? = some y := ⟨_, List.getElem?_eq_getElem (by have := Hl.out; omega)⟩
              obtain ⟨ad', e', hab', c0, c1⟩ := (Hr.out.below hb).two hy rfl
              injection e' with e'
              subst e'
              obtain ⟨ad', e', hab'', c2, c3⟩ := (Hr.out.below hb).two Hx.out rfl
              injection e' with e'
              subst e'
              have Hy := Lib.hid hy
              clear hy
              have b1 : (m : Int) < (n : Int) := by omega
              have b2 : (k : Int) < (n : Int) := by omega
              by_cases he : y.1 = x.1
              · have hq : (y.1 == x.1) = true := by simp [he]
                have Hbad : Hid (batchOk l = false) := lt_bad_old Hx.out hlt2 Hy.out he
                clear he
                go_wp2_with fail
                go_quiet (fail)
                go_wp2
                go_ret
                exact ⟨ret_bool Hbad.out.symm, below_drewN hb _⟩
              · have hq : (y.1 == x.1) = false := by simp [he]
                have He := Lib.hid he
                clear he
                go_wp2_with fail
                go_quiet (fail)
                go_wp2
                go_roundw
                case rel => exact ⟨m + 1, by omega, by go_num, below_drewN hb _, fun j z hj hz => if e : j = m then (by subst e; rw [Hy.out] at hz; injection hz with hz; subst hz; exact He.out) else H2.out j z (by omega) hz⟩
                case measure => simp [intOf]; omega
            · obtain rfl : m = k := by omega
              have Hok : Hid (ltOkAt l m = true) := lt_good Hx.out Hin.out Hc.out H2.out
              go_wp2
              go_roundw
              case rel => exact ⟨m + 1, by omega, by go_num, hb, fun j hj => if e : j = m then e ▸ Hok.out else H.out j (by omega)⟩
              case measure => simp [intOf]; omega
    · obtain rfl : k = n := by omega
      have Hv : Hid (decide ((k : Int) ≤ 60) = batchOk l) := by
        show _ = _
        by_cases h6 : k ≤ 60
        · rw [(batchOk_iff l).2 ⟨by have := Hl.out; omega, fun i hi => H.out i (by have := Hl.out; omega)⟩]; simp; omega
        · rw [batchOk_long (by have := Hl.out; omega)]; simp; omega
      go_wp2
      go_ret
      exact ⟨ret_bool Hv.out, hb⟩
end Go.Proofs.Ytjibjoapbjojlaa
