/-
  Letters, over the draws' text. (Put together from XPlM, XPlA, XPlC, XPlH, XPlHb.)
-/
import Derived.Test.YtfokfdkpbdabhaaDf2
import Derived.Test.YtfokfdkpbdabhaaDrO
namespace Go.Proofs.Ytfokfdkpbdabhaa
open Go.RowKit

theorem strEnc_one (x : Str) : ∀ u ∈ strEnc x, u.oneCell' = true := by
  intro u hu
  simp [strEnc] at hu
  subst hu; rfl
abbrev Lt := Int × Str
def ltEnc (x : Lt) : List Value := [.int .i64 x.1, .string x.2]
theorem ltEnc_len (x : Lt) : (ltEnc x).length = 2 := rfl
theorem ltEnc_one (x : Lt) : ∀ u ∈ ltEnc x, u.oneCell' = true := by
  intro u hu
  simp [ltEnc] at hu
  rcases hu with rfl | rfl <;> rfl

/-- The first place of a string. -/
def strIdx (l : List Str) (c : Str) : Option Nat := l.findIdx? fun x => decide (x = c)
theorem strIdx_none {l : List Str} {c : Str} : strIdx l c = none ↔ ∀ (i : Nat) (x : Str), l[i]? = some x → x ≠ c := by
  unfold strIdx
  rw [List.findIdx?_eq_none_iff]
  constructor
  · intro h i x hx he
    have := h x (List.mem_of_getElem? hx)
    simp [he] at this
  · intro h x hx
    obtain ⟨i, hi, rfl⟩ := List.getElem_of_mem hx
    simpa using h i _ (List.getElem?_eq_getElem hi)
theorem strIdx_some {l : List Str} {c : Str} {k : Nat} : strIdx l c = some k ↔ l[k]? = some c ∧ ∀ (i : Nat) (x : Str), i < k → l[i]? = some x → x ≠ c := by
  unfold strIdx
  rw [List.findIdx?_eq_some_iff_getElem]
  constructor
  · rintro ⟨h, he, hlt⟩
    refine ⟨by rw [List.getElem?_eq_getElem h]; simpa using he, fun i x hi hx => ?_⟩
    have := hlt i hi
    rw [List.getElem?_eq_getElem (by omega)] at hx
    injection hx with hx
    subst hx
    simpa using this
  · rintro ⟨hx, hlt⟩
    obtain ⟨h, hx'⟩ := List.getElem?_eq_some_iff.1 hx
    refine ⟨h, by simp [hx'], fun j hj => ?_⟩
    have := hlt j _ hj (List.getElem?_eq_getElem (by omega))
    simpa using this
theorem strIdx_lt {l : List Str} {c : Str} {k : Nat} (h : strIdx l c = some k) : k < l.length := (List.getElem?_eq_some_iff.1 (strIdx_some.1 h).1).1

/-- Is text i a code, and not an earlier one? -/
def cdOkAt (l : List Str) (i : Nat) : Bool := match l[i]? with
  | none => true
  | some x => codeOk x && (strIdx (l.take i) x).isNone
def cdsOk (l : List Str) : Bool := (List.range l.length).all (cdOkAt l)
theorem cdsOk_iff (l : List Str) : cdsOk l = true ↔ ∀ i, i < l.length → cdOkAt l i = true := by
  unfold cdsOk
  simp [List.all_eq_true]
theorem cdsOk_bad {l : List Str} {i : Nat} (hi : i < l.length) (h : cdOkAt l i = false) : cdsOk l = false := by
  cases ha : cdsOk l
  · rfl
  · rw [(cdsOk_iff l).1 ha i hi] at h; cases h
theorem cdOkAt_eq {l : List Str} {i : Nat} {x : Str} (h : l[i]? = some x) : cdOkAt l i = (codeOk x && (strIdx (l.take i) x).isNone) := by
  unfold cdOkAt; rw [h]

/-- Is letter i valid, its number not that of an earlier letter? -/
def idNew (l : List Lt) (i : Nat) (n : Int) : Bool := (l.take i).all fun x => decide (¬ x.1 = n)
def ltOkAt (l : List Lt) (i : Nat) : Bool := match l[i]? with
  | none => true
  | some x => decide (1 ≤ x.1 ∧ x.1 ≤ 9999) && codeOk x.2 && idNew l i x.1
def batchOk (l : List Lt) : Bool := decide (l.length ≤ 60) && (List.range l.length).all (ltOkAt l)
theorem batchOk_iff (l : List Lt) : batchOk l = true ↔ l.length ≤ 60 ∧ ∀ i, i < l.length → ltOkAt l i = true := by
  unfold batchOk
  simp [List.all_eq_true]
theorem batchOk_long {l : List Lt} (h : 60 < l.length) : batchOk l = false := by
  unfold batchOk; rw [show decide (l.length ≤ 60) = false from by simp; omega]; rfl
theorem batchOk_bad {l : List Lt} {i : Nat} (hi : i < l.length) (h : ltOkAt l i = false) : batchOk l = false := by
  cases ha : batchOk l
  · rfl
  · rw [((batchOk_iff l).1 ha).2 i hi] at h; cases h
theorem ltOkAt_eq {l : List Lt} {i : Nat} {x : Lt} (h : l[i]? = some x) : ltOkAt l i = (decide (1 ≤ x.1 ∧ x.1 ≤ 9999) && codeOk x.2 && idNew l i x.1) := by
  unfold ltOkAt; rw [h]
theorem idNew_iff {l : List Lt} {i : Nat} {n : Int} : idNew l i n = true ↔ ∀ (j : Nat) (x : Lt), j < i → l[j]? = some x → ¬ x.1 = n := by
  unfold idNew
  rw [List.all_eq_true]
  constructor
  · intro h j x hj hx
    have := h x (List.mem_of_getElem? (show (l.take i)[j]? = some x from by rw [List.getElem?_take, if_pos hj]; exact hx))
    simpa using this
  · intro h x hx
    obtain ⟨j, hj, rfl⟩ := List.getElem_of_mem hx
    have hj' : j < i := by rw [List.length_take] at hj; omega
    have e := List.getElem?_eq_getElem hj
    rw [List.getElem?_take, if_pos hj'] at e
    simpa using h j _ hj' e
theorem idNew_bad {l : List Lt} {i j : Nat} {n : Int} {x : Lt} (hj : j < i) (hx : l[j]? = some x) (h : x.1 = n) : idNew l i n = false := by
  cases ha : idNew l i n
  · rfl
  · exact absurd h (idNew_iff.1 ha j x hj hx)

theorem idxInt_none' : idxInt none = -1 := rfl
theorem idxInt_some' (m : Nat) : idxInt (some m) = (m : Int) := rfl

theorem sliceIndex (A : Option Addr) (l : List Str) (n cap : Nat) (hl : n = l.length) (c : Str) (w : World) (hn : n ≤ 16777216) (h : Rd w 1 strEnc A l) :
    Calls Try.prog 103 #[.slice A n cap, .string c] w fun e w' => e = .returned (.int .i64 (idxInt (strIdx l c))) ∧ w = w' := by
  subst hl
  have Hr := Lib.hid h
  clear h
  go_enter Try.func103, Try.ntmps103
  go_wp2
  go_loop [8] (fun i => ∃ k : Nat, k ≤ l.length ∧ i = .int .i64 k ∧ Hid (∀ (j : Nat) (x : Str), j < k → l[j]? = some x → x ≠ c)) (fun i => l.length - (intOf i).toNat)
  case atStart => exact ⟨0, Nat.zero_le _, rfl, fun j x hj => absurd hj (by omega)⟩
  case round =>
    obtain ⟨k, hk, rfl, H⟩ := hrel
    by_cases hlt : k < l.length
    · obtain ⟨x, hx⟩ : ∃ x, l[k]? = some x := ⟨_, List.getElem?_eq_getElem hlt⟩
      obtain ⟨ad, rfl, hab, c0⟩ := Hr.out.one hx rfl
      have Hx := Lib.hid hx
      clear hx
      by_cases hc : x = c
      · subst hc
        have hq := str_t (a := x) rfl
        have Hc : Hid (strIdx l x = some k) := strIdx_some.2 ⟨Hx.out, H.out⟩
        go_wp2
        go_ret
        exact ⟨by rw [Hc.out]; rfl, rfl⟩
      · have hq := str_f hc
        have hq' := str_f (fun e => hc e.symm)
        have Hc := Lib.hid hc
        clear hc
        go_wp2
        go_round
        case rel =>
          refine ⟨k + 1, by omega, by go_num, fun j y hj hy => ?_⟩
          by_cases e : j = k
          · subst e
            rw [Hx.out] at hy
            injection hy with hy
            subst hy
            exact Hc.out
          · exact H.out j y (by omega) hy
        case measure => simp [intOf]; omega
    · obtain rfl : k = l.length := by omega
      go_wp2
      go_ret
      exact ⟨by rw [show strIdx l c = none from strIdx_none.2 fun i x hx => H.out i x (List.getElem?_eq_some_iff.1 hx).1 hx]; rfl, rfl⟩

theorem specRank (A : Option Addr) (l : List Str) (n cap : Nat) (hl : n = l.length) (c : Str) (w : World) (hn : n ≤ 16777216) (h : Rd w 1 strEnc A l) :
    Calls Try.prog 86 #[.slice A n cap, .string c] w fun e w' => e = .returned (.int .i64 (idxInt (strIdx l c))) ∧ w = w' := by
  subst hl
  have Hr := Lib.hid h
  clear h
  go_enter Try.func86, Try.ntmps86
  go_wp2
  go_loop [5] (fun i => ∃ k : Nat, k ≤ l.length ∧ i = .int .i64 k ∧ Hid (∀ (j : Nat) (x : Str), j < k → l[j]? = some x → x ≠ c)) (fun i => l.length - (intOf i).toNat)
  case atStart => exact ⟨0, Nat.zero_le _, rfl, fun j x hj => absurd hj (by omega)⟩
  case round =>
    obtain ⟨k, hk, rfl, H⟩ := hrel
    by_cases hlt : k < l.length
    · obtain ⟨x, hx⟩ : ∃ x, l[k]? = some x := ⟨_, List.getElem?_eq_getElem hlt⟩
      obtain ⟨ad, rfl, hab, c0⟩ := Hr.out.one hx rfl
      have Hx := Lib.hid hx
      clear hx
      by_cases hc : x = c
      · subst hc
        have hq := str_t (a := x) rfl
        have Hc : Hid (strIdx l x = some k) := strIdx_some.2 ⟨Hx.out, H.out⟩
        go_wp2
        go_ret
        exact ⟨by rw [Hc.out]; rfl, rfl⟩
      · have hq := str_f hc
        have Hc := Lib.hid hc
        clear hc
        go_wp2
        go_round
        case rel =>
          refine ⟨k + 1, by omega, by go_num, fun j y hj hy => ?_⟩
          by_cases e : j = k
          · subst e
            rw [Hx.out] at hy
            injection hy with hy
            subst hy
            exact Hc.out
          · exact H.out j y (by omega) hy
        case measure => simp [intOf]; omega
    · obtain rfl : k = l.length := by omega
      go_wp2
      go_ret
      exact ⟨by rw [show strIdx l c = none from strIdx_none.2 fun i x hx => H.out i x (List.getElem?_eq_some_iff.1 hx).1 hx]; rfl, rfl⟩

/-- A Bool that the walk does not open. -/
def strHas (l : List Str) (c : Str) : Bool := (strIdx l c).isSome
theorem strHas_ge (l : List Str) (c : Str) : decide (0 ≤ idxInt (strIdx l c)) = strHas l c := by
  unfold strHas
  cases strIdx l c <;> simp [idxInt]

theorem sliceContains (A : Option Addr) (l : List Str) (n cap : Nat) (hl : n = l.length) (c : Str) (w : World) (hn : n ≤ 16777216) (h : Rd w 1 strEnc A l) :
    Calls Try.prog 84 #[.slice A n cap, .string c] w fun e w' => e = .returned (.bool (strHas l c)) ∧ w = w' := by
  have Hr := Lib.hid h
  have Hl := Lib.hid hl
  clear h hl
  go_enter Try.func84, Try.ntmps84
  go_wp2_with (go_at_call 103; refine (sliceIndex _ l _ _ Hl.out _ _ hn Hr.out).mono ?_; rintro e w1 ⟨rfl, rfl⟩)
  go_ret
  exact ⟨ret_bool (strHas_ge l c), rfl⟩


theorem lt_bad_id {l : List Lt} {k : Nat} {x : Lt} (hx : l[k]? = some x) (h : ¬ (1 ≤ x.1 ∧ x.1 ≤ 9999)) : batchOk l = false :=
  batchOk_bad (List.getElem?_eq_some_iff.1 hx).1 (by rw [ltOkAt_eq hx, decide_eq_false h]; rfl)
theorem lt_bad_code {l : List Lt} {k : Nat} {x : Lt} (hx : l[k]? = some x) (h : codeOk x.2 = false) : batchOk l = false :=
  batchOk_bad (List.getElem?_eq_some_iff.1 hx).1 (by rw [ltOkAt_eq hx, h, Bool.and_false]; rfl)
theorem lt_bad_old {l : List Lt} {k j : Nat} {x y : Lt} (hx : l[k]? = some x) (hj : j < k) (hy : l[j]? = some y) (h : y.1 = x.1) : batchOk l = false :=
  batchOk_bad (List.getElem?_eq_some_iff.1 hx).1 (by rw [ltOkAt_eq hx, idNew_bad hj hy h, Bool.and_false])
theorem lt_good {l : List Lt} {k : Nat} {x : Lt} (hx : l[k]? = some x) (h1 : 1 ≤ x.1 ∧ x.1 ≤ 9999) (h2 : codeOk x.2 = true) (h3 : ∀ (j : Nat) (y : Lt), j < k → l[j]? = some y → ¬ y.1 = x.1) : ltOkAt l k = true := by
  rw [ltOkAt_eq hx, decide_eq_true h1, h2, idNew_iff.2 h3]; rfl

theorem cell_alloc {w : World} {a : Addr} {v : Value} (h : w.cell? a = some v) (o : Obj) : (w.alloc o).cell? a = some v := below_cell ((Below.refl _ _).alloc (Nat.le_refl _) o) h

set_option maxHeartbeats 2000000 in
theorem implBatchValid (A : Option Addr) (l : List Lt) (n cap : Nat) (hl : n = l.length) (hcap : n ≤ cap) (w : World) (hn : n ≤ 16777216) (hs : ∀ x ∈ l, x.2.size ≤ 1048576) (h : Rd w 2 ltEnc A l) :
    Calls Try.prog 82 #[.slice A n cap] w fun e w' => e = .returned (.bool (batchOk l)) ∧ Below w.heap.size w w' := by
  have Hl := Lib.hid hl
  have Hr := Lib.hid h
  have Hs := Lib.hid hs
  by_cases hlong : n ≤ 60
  · clear h hs hl
    go_enter Try.func82, Try.ntmps82
    go_wp2
    go_loopw [12] (fun i wr => ∃ k : Nat, k ≤ n ∧ i = .int .i64 k ∧ Below w.heap.size w wr ∧ Hid (∀ j, j < k → ltOkAt l j = true)) (fun i _ => n - (intOf i).toNat)
    case atStart => exact ⟨0, Nat.zero_le _, rfl, Below.refl _ _, fun j hj => absurd hj (by omega)⟩
    case round =>
      obtain ⟨k, hk, rfl, hb, H⟩ := hrel
      by_cases hlt : k < n
      · obtain ⟨x, hx⟩ : ∃ x, l[k]? = some x := ⟨_, List.getElem?_eq_getElem (by have := Hl.out; omega)⟩
        have hs1 := Hs.out x (List.mem_of_getElem? hx)
        obtain ⟨ad, rfl, hab, c0, c1⟩ := (Hr.out.below hb).two hx rfl
        have Hx := Lib.hid hx
        clear hx
        have hb1 := hb.alloc hb.size (Obj.cells #[.int .i64 x.1, .string x.2] 54)
        by_cases h1 : 1 ≤ x.1
        · by_cases h2 : x.1 ≤ 9999
          · cases hc : codeOk x.2
            · have Hbad : Hid (batchOk l = false) := lt_bad_code Hx.out hc
              go_wp2_with (go_at_call 31; refine (implCodeValid _ (by omega) _).mono ?_; rw [hc]; rintro e w1 ⟨rfl, rfl⟩)
              go_ret
              exact ⟨ret_bool Hbad.out.symm, hb1⟩
            · have Hc := Lib.hid hc
              clear hc
              have hle : k ≤ cap := by omega
              go_wp2_with (go_at_call 31; refine (implCodeValid _ (by omega) _).mono ?_; rw [Hc.out]; rintro e w1 ⟨rfl, rfl⟩)
              go_loopw [35] (fun i wi => ∃ m : Nat, m ≤ k ∧ i = .int .i64 m ∧ Below w.heap.size w wi ∧ wi.cell? ⟨wr.heap.size, 0, none⟩ = some (.int .i64 x.1) ∧ Hid (∀ (j : Nat) (y : Lt), j < m → l[j]? = some y → ¬ y.1 = x.1)) (fun i _ => k - (intOf i).toNat)
              case atStart => exact ⟨0, Nat.zero_le _, rfl, hb1, World.cell?_alloc_at _ _ _ 0 rfl, fun j y hj => absurd hj (by omega)⟩
              case round =>
                clear c0 c1 hb1 hb
                obtain ⟨m, hm, rfl, hb, hbox, H2⟩ := hrel
                by_cases hlt2 : m < k
                · obtain ⟨y, hy⟩ : ∃ y, l[m]? = some y := ⟨_, List.getElem?_eq_getElem (by have := Hl.out; omega)⟩
                  obtain ⟨ad', e', hab', c0, c1⟩ := (Hr.out.below hb).two hy rfl
                  injection e' with e'
                  subst e'
                  have Hy := Lib.hid hy
                  clear hy
                  have hbi := hb.alloc hb.size (Obj.cells #[.int .i64 y.1, .string y.2] 54)
                  have hbox2 := cell_alloc hbox (Obj.cells #[.int .i64 y.1, .string y.2] 54)
                  by_cases he : y.1 = x.1
                  · have hq : (y.1 == x.1) = true := by simp [he]
                    have Hbad : Hid (batchOk l = false) := lt_bad_old Hx.out hlt2 Hy.out he
                    clear he
                    go_wp2
                    go_ret
                    exact ⟨ret_bool Hbad.out.symm, hbi⟩
                  · have hq : (y.1 == x.1) = false := by simp [he]
                    have He := Lib.hid he
                    clear he
                    go_wp2
                    go_roundw
                    case rel => exact ⟨m + 1, by omega, by go_num, hbi, hbox2, fun j z hj hz => if e : j = m then (by subst e; rw [Hy.out] at hz; injection hz with hz; subst hz; exact He.out) else H2.out j z (by omega) hz⟩
                    case measure => simp [intOf]; omega
                · obtain rfl : m = k := by omega
                  have Hok : Hid (ltOkAt l m = true) := lt_good Hx.out ⟨h1, h2⟩ Hc.out H2.out
                  go_wp2
                  go_roundw
                  case rel => exact ⟨m + 1, by omega, by go_num, hb, fun j hj => if e : j = m then e ▸ Hok.out else H.out j (by omega)⟩
                  case measure => simp [intOf]; omega
          · have Hbad : Hid (batchOk l = false) := lt_bad_id Hx.out (by omega)
            go_wp2
            go_ret
            exact ⟨ret_bool Hbad.out.symm, hb1⟩
        · have Hbad : Hid (batchOk l = false) := lt_bad_id Hx.out (by omega)
          go_wp2
          go_ret
          exact ⟨ret_bool Hbad.out.symm, hb1⟩
      · obtain rfl : k = n := by omega
        go_wp2
        go_ret
        exact ⟨ret_bool ((batchOk_iff l).2 ⟨by have := Hl.out; omega, fun i hi => H.out i (by have := Hl.out; omega)⟩).symm, hb⟩
  · have Hd := Lib.hid (batchOk_long (l := l) (by omega))
    clear h hs hl
    go_enter Try.func82, Try.ntmps82
    go_wp2
    go_ret
    exact ⟨ret_bool Hd.out.symm, Below.refl _ _⟩

set_option maxHeartbeats 2000000 in
theorem specBatchValid (A : Option Addr) (l : List Lt) (n cap : Nat) (hl : n = l.length) (w : World) (hn : n ≤ 16777216) (hs : ∀ x ∈ l, x.2.size ≤ 1048576) (h : Rd w 2 ltEnc A l) :
    Calls Try.prog 85 #[.slice A n cap] w fun e w' => e = .returned (.bool (batchOk l)) ∧ Below w.heap.size w w' := by
  have Hl := Lib.hid hl
  have Hr := Lib.hid h
  have Hs := Lib.hid hs
  clear h hs hl
  go_enter Try.func85, Try.ntmps85
  go_wp2
  go_loopw [3] (fun i wr => ∃ k : Nat, k ≤ n ∧ i = .int .i64 k ∧ Below w.heap.size w wr ∧ Hid (∀ j, j < k → ltOkAt l j = true)) (fun i _ => n - (intOf i).toNat)
  case atStart => exact ⟨0, Nat.zero_le _, rfl, Below.refl _ _, fun j hj => absurd hj (by omega)⟩
  case round =>
    obtain ⟨k, hk, rfl, hb, H⟩ := hrel
    by_cases hlt : k < n
    · obtain ⟨x, hx⟩ : ∃ x, l[k]? = some x := ⟨_, List.getElem?_eq_getElem (by have := Hl.out; omega)⟩
      have hs1 := Hs.out x (List.mem_of_getElem? hx)
      obtain ⟨ad, rfl, hab, c0, c1⟩ := (Hr.out.below hb).two hx rfl
      have Hx := Lib.hid hx
      clear hx
      cases hc : codeOk x.2
      · have Hbad : Hid (batchOk l = false) := lt_bad_code Hx.out hc
        go_wp2_with (go_at_call 74; refine (specCodeValid _ (by omega) _).mono ?_; rw [hc]; rintro e w1 ⟨rfl, rfl⟩)
        go_ret
        exact ⟨ret_bool Hbad.out.symm, hb⟩
      · have Hc := Lib.hid hc
        clear hc
        cases hi : decide (1 ≤ x.1 ∧ x.1 ≤ 9999)
        · have Hbad : Hid (batchOk l = false) := lt_bad_id Hx.out (by simpa using hi)
          have Hi := Lib.hid hi
          clear hi
          go_wp2_with (first
            | (go_at_call 74; refine (specCodeValid _ (by omega) _).mono ?_; rw [Hc.out]; rintro e w1 ⟨rfl, rfl⟩)
            | (go_at_call 97; refine (l1In_any _ _ _ _).mono ?_; rw [Hi.out]; rintro e w1 ⟨rfl, rfl⟩))
          go_ret
          exact ⟨ret_bool Hbad.out.symm, hb⟩
        · have Hin := Lib.hid (of_decide_eq_true hi)
          have Hi := Lib.hid hi
          clear hi
          go_wp2_with (first
            | (go_at_call 74; refine (specCodeValid _ (by omega) _).mono ?_; rw [Hc.out]; rintro e w1 ⟨rfl, rfl⟩)
            | (go_at_call 97; refine (l1In_any _ _ _ _).mono ?_; rw [Hi.out]; rintro e w1 ⟨rfl, rfl⟩))
          go_loopw [4] (fun i wi => ∃ m : Nat, m ≤ k ∧ i = .int .i64 m ∧ Below w.heap.size w wi ∧ Hid (∀ (j : Nat) (y : Lt), j < m → l[j]? = some y → ¬ y.1 = x.1)) (fun i _ => k - (intOf i).toNat)
          case atStart => exact ⟨0, Nat.zero_le _, rfl, hb, fun j y hj => absurd hj (by omega)⟩
          case round =>
            clear c0 c1 hb
            obtain ⟨m, hm, rfl, hb, H2⟩ := hrel
            by_cases hlt2 : m < k
            · obtain ⟨y, hy⟩ : ∃ y, l[m]? = some y := ⟨_, List.getElem?_eq_getElem (by have := Hl.out; omega)⟩
              obtain ⟨ad', e', hab', c0, c1⟩ := (Hr.out.below hb).two hy rfl
              injection e' with e'
              subst e'
              obtain ⟨ad', e', hab'', c2, c3⟩ := (Hr.out.below hb).two Hx.out rfl
              injection e' with e'
              subst e'
              have Hy := Lib.hid hy
              clear hy
              have b1 : (m : Int) < (n : Int) := by omega
              have b2 : (k : Int) < (n : Int) := by omega
              by_cases he : y.1 = x.1
              · have hq : (y.1 == x.1) = true := by simp [he]
                have Hbad : Hid (batchOk l = false) := lt_bad_old Hx.out hlt2 Hy.out he
                clear he
                go_wp2_with fail
                go_quiet (fail)
                go_wp2
                go_ret
                exact ⟨ret_bool Hbad.out.symm, below_drewN hb _⟩
              · have hq : (y.1 == x.1) = false := by simp [he]
                have He := Lib.hid he
                clear he
                go_wp2_with fail
                go_quiet (fail)
                go_wp2
                go_roundw
                case rel => exact ⟨m + 1, by omega, by go_num, below_drewN hb _, fun j z hj hz => if e : j = m then (by subst e; rw [Hy.out] at hz; injection hz with hz; subst hz; exact He.out) else H2.out j z (by omega) hz⟩
                case measure => simp [intOf]; omega
            · obtain rfl : m = k := by omega
              have Hok : Hid (ltOkAt l m = true) := lt_good Hx.out Hin.out Hc.out H2.out
              go_wp2
              go_roundw
              case rel => exact ⟨m + 1, by omega, by go_num, hb, fun j hj => if e : j = m then e ▸ Hok.out else H.out j (by omega)⟩
              case measure => simp [intOf]; omega
    · obtain rfl : k = n := by omega
      have Hv : Hid (decide ((k : Int) ≤ 60) = batchOk l) := by
        show _ = _
        by_cases h6 : k ≤ 60
        · rw [(batchOk_iff l).2 ⟨by have := Hl.out; omega, fun i hi => H.out i (by have := Hl.out; omega)⟩]; simp; omega
        · rw [batchOk_long (by have := Hl.out; omega)]; simp; omega
      go_wp2
      go_ret
      exact ⟨ret_bool Hv.out, hb⟩
end Go.Proofs.Ytfokfdkpbdabhaa
