/-
  Is a plan valid: the program's and the reference's; the laws' own helpers on plans.
-/
import Derived.Test.YtjibjoapbjojlaaDoorPlA
import Derived.Test.YtjibjoapbjojlaaDoorPlL
import Derived.Test.YtjibjoapbjojlaaDoorCap0
namespace Go.Proofs.YtjibjoapbjojlaaDoor
open Go.RowKit

theorem quiet_eq {P : Program} {f : FuncId} {args : Array Value} {w : World} {n : Nat} {v : Value}
    (h : Calls P f args (w.drewN n) fun e w' => e = .returned v ∧ w.drewN n = w') : Calls P f args (w.drewN n) fun e w'' => e = .returned v ∧ ∃ m, w'' = w.drewN m :=
  h.mono fun _ _ ⟨he, hm⟩ => ⟨he, n, hm.symm⟩

def planOk (b p : Int) (l : List Str) : Bool := binsOk b && passesOk p && decide (1 ≤ l.length ∧ l.length ≤ 60) && decide ((l.length : Int) ≤ pw b p.toNat) && cdsOk l
theorem planOk_parts {b p : Int} {l : List Str} (h : planOk b p l = true) : (2 ≤ b ∧ b ≤ 16) ∧ (1 ≤ p ∧ p ≤ 4) ∧ (1 ≤ l.length ∧ l.length ≤ 60) ∧ (l.length : Int) ≤ pw b p.toNat ∧ cdsOk l = true := by
  unfold planOk binsOk passesOk at h
  simp only [Bool.and_eq_true, decide_eq_true_eq] at h
  exact ⟨h.1.1.1.1, h.1.1.1.2, h.1.1.2, h.1.2, h.2⟩

set_option maxHeartbeats 2000000 in
theorem implPlanValid (b p : Int) (A : Option Addr) (l : List Str) (n cap : Nat) (hl : n = l.length) (hcap : n ≤ cap) (w : World) (hn : n ≤ 16777216) (hs : ∀ x ∈ l, x.size ≤ 1048576) (h : Rd w 1 strEnc A l) :
    Calls Tryd.prog 21 #[.agg #[.int .i64 b, .int .i64 p, .slice A n cap]] w fun e w' => e = .returned (.bool (planOk b p l)) ∧ Below w.heap.size w w' := by
  have Hl := Lib.hid hl
  have Hr := Lib.hid h
  have Hs := Lib.hid hs
  have hpo : planOk b p l = (binsOk b && passesOk p && decide (1 ≤ n ∧ n ≤ 60) && decide ((n : Int) ≤ pw b p.toNat) && cdsOk l) := by rw [hl]; rfl
  have hcp : capOf b p = if binsOk b && passesOk p then pw b p.toNat else -1 := rfl
  clear h hs hl
  have hq : 2 ≤ b → b ≤ 16 → 1 ≤ p → p ≤ 4 → pw b p.toNat ≤ 65536 := fun h1 h2 h3 h4 => (pw_bd b p.toNat h1 h2 (by omega)).2
  obtain ⟨q, hqe⟩ : ∃ q, pw b p.toNat = q := ⟨_, rfl⟩
  rw [hqe] at hpo hcp hq
  cases hb : binsOk b
  · rw [hb] at hpo
    simp only [Bool.false_and] at hpo
    have Hpo := Lib.hid hpo
    clear hpo hqe hcp hq
    go_enter Tryd.func21, Tryd.ntmps21
    go_wp2_with (go_at_call 55; refine (binsValid_any _ _).mono ?_; rw [hb]; rintro e w' ⟨rfl, rfl⟩)
    go_ret
    exact ⟨ret_bool Hpo.out.symm, (Below.refl _ _).alloc (Nat.le_refl _) _⟩
  · cases hp : passesOk p
    · rw [hb, hp] at hpo
      simp only [Bool.false_and, Bool.and_false] at hpo
      have Hpo := Lib.hid hpo
      clear hpo hqe hcp hq
      go_enter Tryd.func21, Tryd.ntmps21
      go_wp2_with (first
        | (go_at_call 55; refine (binsValid_any _ _).mono ?_; rw [hb]; rintro e w' ⟨rfl, rfl⟩)
        | (go_at_call 56; refine (passesValid_any _ _).mono ?_; rw [hp]; rintro e w' ⟨rfl, rfl⟩))
      go_ret
      exact ⟨ret_bool Hpo.out.symm, (Below.refl _ _).alloc (Nat.le_refl _) _⟩
    · have hb' := (binsOk_iff b).1 hb
      have hp' := (passesOk_iff p).1 hp
      have hq' := hq hb'.1 hb'.2 hp'.1 hp'.2
      rw [hb, hp] at hpo hcp
      simp only [Bool.and_self, Bool.true_and, if_true] at hpo hcp
      have Hcp := Lib.hid hcp
      clear hcp hqe hq
      have hcase : (planOk b p l = false ∧ (¬ 1 ≤ n ∨ (1 ≤ n ∧ ¬ n ≤ 60) ∨ (1 ≤ n ∧ n ≤ 60 ∧ ¬ (n : Int) ≤ q))) ∨ (planOk b p l = cdsOk l ∧ 1 ≤ n ∧ n ≤ 60 ∧ (n : Int) ≤ q) := by
        rw [hpo]
        by_cases h1 : 1 ≤ n <;> by_cases h2 : n ≤ 60 <;> by_cases h3 : (n : Int) ≤ q <;> simp [h1, h2, h3]
      clear hpo
      rcases hcase with ⟨hpo, h1 | ⟨h1, h2⟩ | ⟨h1, h2, h3⟩⟩ | ⟨hpo, h1, h2, h3⟩
      all_goals
        have Hpo := Lib.hid hpo
        clear hpo
        have Hr1 := fun (g : Obj) => Hr.out.below ((Below.refl w.heap.size w).alloc (Nat.le_refl _) g)
        go_enter Tryd.func21, Tryd.ntmps21
        go_wp2_with (first
          | (go_at_call 55; refine (binsValid_any _ _).mono ?_; rw [hb]; rintro e w' ⟨rfl, rfl⟩)
          | (go_at_call 56; refine (passesValid_any _ _).mono ?_; rw [hp]; rintro e w' ⟨rfl, rfl⟩)
          | (go_at_call 57; refine (implCapacityOf _ _ _).mono ?_; rw [Hcp.out]; rintro e w' ⟨rfl, rfl⟩)
          | (go_at_call 58; refine (implCodesDiffer _ l _ _ Hl.out hcap _ hn Hs.out (Hr1 _)).mono ?_; rintro e w' ⟨rfl, rfl⟩))
        go_ret
        exact ⟨ret_bool Hpo.out.symm, (Below.refl _ _).alloc (Nat.le_refl _) _⟩

/-- Is text i no earlier one, among the first k? -/
theorem cdOkAt_old {l : List Str} {i k : Nat} {x : Str} (hx : l[i]? = some x) (hk : k < i) (hy : l[k]? = some x) : cdOkAt l i = false := by
  rw [cdOkAt_eq hx]
  cases h : strIdx (l.take i) x with
  | none => exact absurd rfl (strIdx_none.1 h k x (by rw [List.getElem?_take, if_pos hk]; exact hy))
  | some m => simp
theorem cdOkAt_new {l : List Str} {i : Nat} {x : Str} (hx : l[i]? = some x) (hc : codeOk x = true) (h : ∀ (j : Nat) (y : Str), j < i → l[j]? = some y → ¬ y = x) : cdOkAt l i = true := by
  rw [cdOkAt_eq hx, hc]
  rw [show strIdx (l.take i) x = none from strIdx_none.2 fun j y hy => by
    rw [List.getElem?_take] at hy
    split at hy
    · exact h j y (by assumption) hy
    · cases hy]
  rfl

set_option maxHeartbeats 2000000 in
theorem specPlanValid (b p : Int) (A : Option Addr) (l : List Str) (n cap : Nat) (hl : n = l.length) (w : World) (hn : n ≤ 16777216) (hs : ∀ x ∈ l, x.size ≤ 1048576) (h : Rd w 1 strEnc A l) :
    Calls Tryd.prog 54 #[.agg #[.int .i64 b, .int .i64 p, .slice A n cap]] w fun e w' => e = .returned (.bool (planOk b p l)) ∧ Below w.heap.size w w' := by
  have Hl := Lib.hid hl
  have Hr := Lib.hid h
  have Hs := Lib.hid hs
  have hpo : planOk b p l = (binsOk b && passesOk p && decide (1 ≤ n ∧ n ≤ 60) && decide ((n : Int) ≤ pw b p.toNat) && cdsOk l) := by rw [hl]; rfl
  clear h hs hl
  have K1 : ∀ w, Calls Tryd.prog 81 #[.int .i64 b, .int .i64 p] w fun e w' => e = .returned (.bool (binsOk b && passesOk p)) ∧ w = w' := fun w => l3Shape_any b p w
  have K2 : ∀ w, Calls Tryd.prog 77 #[.int .i64 (n : Int), .int .i64 1, .int .i64 60] w fun e w' => e = .returned (.bool (decide (1 ≤ n ∧ n ≤ 60))) ∧ w = w' := fun w => by
    have := l1In_any n 1 60 w
    rwa [show decide ((1 : Int) ≤ n ∧ (n : Int) ≤ 60) = decide (1 ≤ n ∧ n ≤ 60) from by rw [decide_eq_decide]; omega] at this
  have K3 : 2 ≤ b → b ≤ 16 → 1 ≤ p → p ≤ 4 → (∀ w, Calls Tryd.prog 82 #[.int .i64 b, .int .i64 p] w fun e w' => e = .returned (.int .i64 (pw b p.toNat)) ∧ w = w') ∧ 1 ≤ pw b p.toNat ∧ pw b p.toNat ≤ 65536 :=
    fun h1 h2 h3 h4 => ⟨fun w => l3Power_any b p h1 h2 (by omega) h4 w, pw_bd b p.toNat h1 h2 (by omega)⟩
  obtain ⟨q, hqe⟩ : ∃ q, pw b p.toNat = q := ⟨_, rfl⟩
  rw [hqe] at hpo K3
  clear hqe
  cases hbp : (binsOk b && passesOk p)
  · rw [hbp] at hpo K1
    simp only [Bool.false_and] at hpo
    have Hpo := Lib.hid hpo
    clear hpo hbp K3
    go_enter Tryd.func54, Tryd.ntmps54
    go_wp2_with fail
    go_quiet ((go_at_call 81; exact quiet_eq (K1 _)))
    go_wp2
    go_ret
    exact ⟨ret_bool Hpo.out.symm, below_drewN ((Below.refl _ _).alloc (Nat.le_refl _) _) _⟩
  · have hb' := (binsOk_iff b).1 (by revert hbp; cases binsOk b <;> simp)
    have hp' := (passesOk_iff p).1 (by revert hbp; cases passesOk p <;> simp)
    obtain ⟨K3, hq1, hq2⟩ := K3 hb'.1 hb'.2 hp'.1 hp'.2
    rw [hbp] at hpo K1
    simp only [Bool.true_and] at hpo
    clear hbp
    by_cases h12 : 1 ≤ n ∧ n ≤ 60
    · rw [show decide (1 ≤ n ∧ n ≤ 60) = true from by simpa using h12] at hpo K2
      simp only [Bool.true_and] at hpo
      by_cases h3 : (n : Int) ≤ q
      · rw [show decide ((n : Int) ≤ q) = true from by simpa using h3, Bool.true_and] at hpo
        have Hpo := Lib.hid hpo
        clear hpo
        obtain ⟨h1, h2⟩ := h12
        have hd : decide (q < (n : Int)) = false := by simp; omega
        go_enter Tryd.func54, Tryd.ntmps54
        go_wp2_with fail
        go_quiet (first
          | (go_at_call 81; exact quiet_eq (K1 _))
          | (go_at_call 77; exact quiet_eq (K2 _))
          | (go_at_call 82; exact quiet_eq (K3 _)))
        go_wp2_with fail
        go_loopw [3] (fun i wr => ∃ k : Nat, k ≤ n ∧ i = .int .i64 k ∧ Below w.heap.size w wr ∧ wr.cell? ⟨w.heap.size, 2, none⟩ = some (.slice A n cap) ∧ Hid (∀ j, j < k → cdOkAt l j = true)) (fun i _ => n - (intOf i).toNat)
        case atStart => exact ⟨0, Nat.zero_le _, rfl, below_drewN ((Below.refl _ _).alloc (Nat.le_refl _) _) _, World.cell?_alloc_at _ _ _ 2 rfl, fun j hj => absurd hj (by omega)⟩
        case round =>
          obtain ⟨k, hk, rfl, hb, hbox, H⟩ := hrel
          by_cases hlt : k < n
          · obtain ⟨x, hx⟩ : ∃ x, l[k]? = some x := ⟨_, List.getElem?_eq_getElem (by have := Hl.out; omega)⟩
            have hs1 := Hs.out x (List.mem_of_getElem? hx)
            obtain ⟨ad, rfl, hab, c0⟩ := (Hr.out.below hb).one hx rfl
            have Hx := Lib.hid hx
            clear hx
            cases hc : codeOk x
            · have Hbad : Hid (cdsOk l = false) := cdsOk_bad (i := k) (by have := Hl.out; omega) (by rw [cdOkAt_eq Hx.out, hc]; rfl)
              go_wp2_with (go_at_call 76; refine (specCodeValid _ (by omega) _).mono ?_; rw [hc]; rintro e w1 ⟨rfl, rfl⟩)
              go_ret
              exact ⟨ret_bool (by rw [Hpo.out, Hbad.out]), hb⟩
            · go_wp2_with (go_at_call 76; refine (specCodeValid _ (by omega) _).mono ?_; rw [hc]; rintro e w1 ⟨rfl, rfl⟩)
              go_loopw [4] (fun i wr => ∃ m : Nat, m ≤ k ∧ i = .int .i64 m ∧ Below w.heap.size w wr ∧ wr.cell? ⟨w.heap.size, 2, none⟩ = some (.slice (some ad) n cap) ∧ Hid (∀ (j : Nat) (y : Str), j < m → l[j]? = some y → ¬ y = x)) (fun i _ => k - (intOf i).toNat)
              case atStart => exact ⟨0, Nat.zero_le _, rfl, hb, hbox, fun j y hj => absurd hj (by omega)⟩
              case round =>
                clear hbox c0 hb
                obtain ⟨m, hm, rfl, hb, hbox, H2⟩ := hrel
                by_cases hlt2 : m < k
                · obtain ⟨y, hy⟩ : ∃ y, l[m]? = some y := ⟨_, List.getElem?_eq_getElem (by have := Hl.out; omega)⟩
                  obtain ⟨ad', e', hab', c1⟩ := (Hr.out.below hb).one hy rfl
                  injection e' with e'
                  subst e'
                  obtain ⟨ad', e', hab'', c0⟩ := (Hr.out.below hb).one Hx.out rfl
                  injection e' with e'
                  subst e'
                  have Hy := Lib.hid hy
                  clear hy
                  have b1 : (m : Int) < (n : Int) := by omega
                  have b2 : (k : Int) < (n : Int) := by omega
                  by_cases he : y = x
                  · have hq := str_t he
                    have Hbad : Hid (cdsOk l = false) := cdsOk_bad (i := k) (by have := Hl.out; omega) (cdOkAt_old Hx.out hlt2 (by rw [Hy.out, he]))
                    clear he
                    go_wp2_with fail
                    go_quiet (fail)
                    go_wp2
                    go_ret
                    exact ⟨ret_bool (by rw [Hpo.out, Hbad.out]), below_drewN hb _⟩
                  · have hq := str_f he
                    have He := Lib.hid he
                    clear he
                    go_wp2_with fail
                    go_quiet (fail)
                    go_wp2
                    go_roundw
                    case rel => exact ⟨m + 1, by omega, by go_num, below_drewN hb _, hbox, fun j z hj hz => if e : j = m then (by subst e; rw [Hy.out] at hz; injection hz with hz; subst hz; exact He.out) else H2.out j z (by omega) hz⟩
                    case measure => simp [intOf]; omega
                · obtain rfl : m = k := by omega
                  have Hok : Hid (cdOkAt l m = true) := cdOkAt_new Hx.out hc H2.out
                  go_wp2
                  go_roundw
                  case rel => exact ⟨m + 1, by omega, by go_num, hb, hbox, fun j hj => if e : j = m then e ▸ Hok.out else H.out j (by omega)⟩
                  case measure => simp [intOf]; omega
          · obtain rfl : k = n := by omega
            go_wp2
            go_ret
            exact ⟨ret_bool (by rw [Hpo.out, (cdsOk_iff l).2 fun i hi => H.out i (by have := Hl.out; omega)]), hb⟩
      · rw [show decide ((n : Int) ≤ q) = false from by simpa using h3, Bool.false_and] at hpo
        have Hpo := Lib.hid hpo
        clear hpo
        obtain ⟨h1, h2⟩ := h12
        have hd : decide (q < (n : Int)) = true := by simp; omega
        go_enter Tryd.func54, Tryd.ntmps54
        go_wp2_with fail
        go_quiet (first
          | (go_at_call 81; exact quiet_eq (K1 _))
          | (go_at_call 77; exact quiet_eq (K2 _))
          | (go_at_call 82; exact quiet_eq (K3 _)))
        go_wp2
        go_ret
        exact ⟨ret_bool Hpo.out.symm, below_drewN ((Below.refl _ _).alloc (Nat.le_refl _) _) _⟩
    · rw [show decide (1 ≤ n ∧ n ≤ 60) = false from by simpa using h12] at hpo K2
      simp only [Bool.false_and] at hpo
      have Hpo := Lib.hid hpo
      clear hpo h12
      go_enter Tryd.func54, Tryd.ntmps54
      go_wp2_with fail
      go_quiet (first
        | (go_at_call 81; exact quiet_eq (K1 _))
        | (go_at_call 77; exact quiet_eq (K2 _)))
      go_wp2
      go_ret
      exact ⟨ret_bool Hpo.out.symm, below_drewN ((Below.refl _ _).alloc (Nat.le_refl _) _) _⟩
end Go.Proofs.YtjibjoapbjojlaaDoor
