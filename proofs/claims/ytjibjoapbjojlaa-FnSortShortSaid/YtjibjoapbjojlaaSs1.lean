/-
  The digits that vary: the program's and the reference's.
-/
import Derived.Test.YtjibjoapbjojlaaSsL
import Derived.Test.YtjibjoapbjojlaaPsB
import Derived.Test.YtjibjoapbjojlaaDr1
namespace Go.Proofs.Ytjibjoapbjojlaa
open Go.RowKit

theorem num_info : (Try.prog.info? 3).map (fun i => (i.zero, i.size, i.bytes)) = some (some (.int .i64 0), 1, 8) := by kernel_rfl
theorem in_one (x : Int) : ∀ u ∈ inEnc x, u.oneCell' = true := by
  intro u hu
  simp [inEnc] at hu
  subst hu; rfl
theorem in_cells {w : World} {t : TypeId} (x : Int) {g : Nat} (hg : g = w.heap.size) : ∀ (j : Nat) (u : Value), (inEnc x)[j]? = some u → (w.alloc (.cells #[.int .i64 x] t)).cell? (Addr.add ⟨g, 0, none⟩ j) = some u := by
  subst hg
  intro j u hu
  have hj : j < 1 := (List.getElem?_eq_some_iff.1 hu).1
  obtain rfl : j = 0 := by omega
  simp [inEnc] at hu
  subst hu
  rw [show (Addr.add ⟨w.heap.size, 0, none⟩ 0) = (⟨w.heap.size, 0, none⟩ : Addr) from rfl, World.cell?_alloc_at _ _ _ _ rfl]
  rfl
/-- The numbers of the digits below d that vary. -/
def varyN (m : List Lt) (d : Nat) : List Int := ((List.range d).filter (varies m)).map fun k : Nat => (k : Int)
theorem varyN_hit {m : List Lt} {d : Nat} (h : varies m d = true) : varyN m (d + 1) = varyN m d ++ [(d : Int)] := by
  unfold varyN
  rw [List.range_succ, List.filter_append, List.map_append, List.filter_cons_of_pos h]; rfl
theorem varyN_miss {m : List Lt} {d : Nat} (h : varies m d = false) : varyN m (d + 1) = varyN m d := by
  unfold varyN
  rw [List.range_succ, List.filter_append, List.map_append, List.filter_cons_of_neg (by simp [h])]; simp
theorem varyN_len (m : List Lt) (d : Nat) : (varyN m d).length ≤ d := by
  unfold varyN
  rw [List.length_map]
  have := List.length_filter_le (varies m) (List.range d)
  rwa [List.length_range] at this
def varyR (m : List Lt) : List Int := if batchOk m then varyN m 7 else []
def differs (m : List Lt) (d : Nat) (x : Lt) : Bool := !decide (digAt d x.2 = digAt d (firstC m))
theorem any_tk {m : List Lt} {p : Lt → Bool} {k : Nat} {x : Lt} (hx : m[k]? = some x) : (m.take (k + 1)).any p = ((m.take k).any p || p x) := by
  rw [tk_succ hx, List.any_append]; simp
theorem dig_byte {c e : Str} {d : Nat} (hc : d < c.size) (he : d < e.size) : digAt d c = digAt d e ↔ c[d] = e[d] := by
  rw [digAt_eq hc, digAt_eq he]
  constructor
  · intro h; exact UInt8.toNat_inj.1 (by omega)
  · intro h; rw [h]
theorem batch_size {m : List Lt} (h : batchOk m = true) {x : Lt} (hx : x ∈ m) : x.2.size = 7 := by
  obtain ⟨i, hi, rfl⟩ := List.getElem_of_mem hx
  have := ((batchOk_iff m).1 h).2 i hi
  rw [ltOkAt_eq (List.getElem?_eq_getElem hi)] at this
  simp only [Bool.and_eq_true] at this
  exact codeOk_size this.1.2
theorem batch_codes {m : List Lt} (h : batchOk m = true) {x : Lt} (hx : x ∈ m) : codeOk x.2 = true := by
  obtain ⟨i, hi, rfl⟩ := List.getElem_of_mem hx
  have := ((batchOk_iff m).1 h).2 i hi
  rw [ltOkAt_eq (List.getElem?_eq_getElem hi)] at this
  simp only [Bool.and_eq_true] at this
  exact this.1.2
theorem firstC_at {m : List Lt} {y : Lt} (h : m[0]? = some y) : firstC m = y.2 := by
  unfold firstC
  rw [List.getD_eq_getElem?_getD, h]; rfl

def InRet (r : List Int) (w : World) (e : Ending) (w' : World) : Prop :=
  ∃ A n c, e = .returned (.slice A n c) ∧ Own w' w.heap.size 3 1 inEnc (.slice A n c) r ∧ Below w.heap.size w w'

set_option maxHeartbeats 4000000 in
set_option maxRecDepth 100000 in
theorem implVarying (A : Option Addr) (m : List Lt) (n cap : Nat) (hl : n = m.length) (hcap : n ≤ cap) (w : World) (hn : n ≤ 1048576) (hs : ∀ x ∈ m, x.2.size ≤ 1048576) (h : Rd w 2 ltEnc A m) :
    Calls Try.prog 7 #[.slice A n cap] w fun e w' => InRet (varyR m) w e w' := by
  have Hl := Lib.hid hl
  have Hr := Lib.hid h
  have Hs := Lib.hid hs
  clear h hs hl
  cases hv : batchOk m
  · have Hn : Hid (varyR m = []) := by show _ = _; unfold varyR; rw [hv]; rfl
    go_enter Try.func7, Try.ntmps7
    go_wp2_with fail
    refine (implBatchValid _ m _ _ Hl.out hcap _ (by omega) Hs.out Hr.out).mono ?_
    rw [hv]
    rintro e w1 ⟨rfl, hb⟩
    go_wp2
    go_ret
    rw [Hn.out]
    exact ⟨none, 0, 0, rfl, Own.nil_ _ _ _ _ _, hb⟩
  · have Hn : Hid (varyR m = varyN m 7) := by show _ = _; unfold varyR; rw [hv, if_pos rfl]
    have Hz : Hid (∀ x ∈ m, x.2.size = 7) := fun x hx => batch_size hv hx
    go_enter Try.func7, Try.ntmps7
    go_wp2_with fail
    refine (implBatchValid _ m _ _ Hl.out hcap _ (by omega) Hs.out Hr.out).mono ?_
    rw [hv]
    rintro e w1 ⟨rfl, hb⟩
    have H1 : Hid (Pool w w1 [ownP 3 1 inEnc (.slice none 0 0) []]) := (Pool.of_below hb).add (Below.refl _ _) (ownP _ 1 inEnc (.slice none 0 0) []) (Own.nil_ _ _ _ _ _) (fun k hk => by simp [ownP, Value.ownBlock] at hk)
    clear hb hv
    go_wp2
    go_loopw [3, 4] (fun o i wr => ∃ (d : Nat) (B : Option Addr) (k c : Nat), d ≤ 7 ∧ i = .int .i64 d ∧ o = .slice B k c ∧ Hid (Pool w wr [ownP 3 1 inEnc (.slice B k c) (varyN m d)])) (fun _ i _ => 7 - (intOf i).toNat)
    case atStart => exact ⟨0, none, 0, 0, by omega, rfl, rfl, H1.out⟩
    case round =>
      clear H1
      obtain ⟨d, B, k, c, hd, rfl, rfl, H⟩ := hrel
      have hkd : k ≤ d := by rw [(H.out.own 0 rfl).len]; exact varyN_len m d
      by_cases hlt : d < 7
      · have hdI : (d : Int) < 7 := by omega
        go_wp2
        go_loopw [3, 16] (fun o i wq => ∃ j : Nat, j ≤ n ∧ i = .int .i64 j ∧ o = .slice B k c ∧ Hid ((m.take j).any (differs m d) = false) ∧ Hid (Pool w wq [ownP 3 1 inEnc (.slice B k c) (varyN m d)])) (fun _ i _ => n - (intOf i).toNat)
        case atStart => exact ⟨0, Nat.zero_le _, rfl, rfl, Lib.hid rfl, H.out⟩
        case round =>
          clear H
          obtain ⟨j, hj, rfl, rfl, HA, H⟩ := hrel
          by_cases hjl : j < n
          · obtain ⟨x, hx⟩ : ∃ x, m[j]? = some x := ⟨_, List.getElem?_eq_getElem (by have := Hl.out; omega)⟩
            obtain ⟨y, hy⟩ : ∃ y, m[0]? = some y := ⟨_, List.getElem?_eq_getElem (by have := Hl.out; omega)⟩
            have hxz := Hz.out x (List.mem_of_getElem? hx)
            have hyz := Hz.out y (List.mem_of_getElem? hy)
            have hxd : d < x.2.size := by omega
            have hyd : d < y.2.size := by omega
            obtain ⟨ad, rfl, hab, c0, c1⟩ := (Hr.out.below H.out.below).two hx rfl
            obtain ⟨ad', e', -, d0, d1⟩ := (Hr.out.below H.out.below).two hy rfl
            injection e' with e2
            subst e2
            rw [show ad.add (0 * 2) = ad from by cases ad; rfl] at d0 d1
            have H2 := Lib.hid (H.out.alloc (Obj.cells #[.int .i64 x.1, .string x.2] 39))
            have hdif : differs m d x = !decide (x.2[d] = y.2[d]) := by
              unfold differs
              rw [firstC_at hy, decide_eq_decide.2 (dig_byte hxd hyd)]
            have hat := any_tk (p := differs m d) hx
            rw [HA.out, Bool.false_or, hdif] at hat
            have hjI : (j : Int) < (n : Int) := by omega
            have Hlen := Lib.hid (H.out.own 0 rfl).len
            by_cases heq : x.2[d] = y.2[d]
            · have HA2 : Hid ((m.take (j + 1)).any (differs m d) = false) := by show _ = _; rw [hat, decide_eq_true heq]; rfl
              have hb1 : (x.2[d].toNat : Int) = (y.2[d].toNat : Int) := by rw [heq]
              have hb2 : ((x.2[d].toNat : Int) != (y.2[d].toNat : Int)) = false := by rw [hb1]; simp
              clear hx hy heq hdif hat
              go_wp2_with fail
              go_quiet (fail)
              go_wp2
              go_roundw
              case rel => exact ⟨j + 1, by omega, by go_num, rfl, HA2.out, H2.out.drew _⟩
              case measure => simp [intOf]; omega
            · have Hv : Hid (varies m d = true) := by
                show _ = _
                unfold varies
                rw [List.any_eq_true]
                exact ⟨x, List.mem_of_getElem? hx, by rw [show (!decide (digAt d x.2 = digAt d (firstC m))) = differs m d x from rfl, hdif, decide_eq_false heq]; rfl⟩
              have hne : ¬ (x.2[d].toNat : Int) = (y.2[d].toNat : Int) := fun e => heq (UInt8.toNat_inj.1 (by omega))
              have hb2 : ((x.2[d].toNat : Int) != (y.2[d].toNat : Int)) = true := by simpa using hne
              have Hvn := Lib.hid (varyN_hit Hv.out)
              clear hx hy heq hdif hat
              go_wp2_with fail
              go_quiet (fail)
              have H3 := Lib.hid (H2.out.drew nq)
              generalize (wr.alloc (Obj.cells #[.int .i64 x.1, .string x.2] 39)).drewN nq = wz at *
              go_wp2_with (at_builtin; refine wpList_append1L (.tmp 31) (.tmp 33) 27 3 num_info Try.underlying27 rfl (by decide) rfl rfl (d : Int) rfl Hlen.out ((H3.out.alloc (Obj.cells #[.int .i64 (d : Int)] 3)).own 0 rfl) rfl inEnc_len (in_cells (d : Int) rfl) (in_one _) (by omega) (by omega) (Nat.zero_le _) ?_; intro g5 c5 w5 ho5 hg5 hat5)
              have H5 := Lib.hid ((H3.out.alloc (Obj.cells #[.int .i64 (d : Int)] 3)).append 0 rfl ho5 hg5 (fun q e => by injection e with e; subst e; exact hat5))
              rw [← Hvn.out] at H5
              clear ho5 hg5 hat5
              go_wp2
              go_roundw
              case rel => exact ⟨d + 1, _, k + 1, c5, by omega, by go_num, rfl, H5.out⟩
              case measure => simp [intOf]; omega
          · obtain rfl : j = n := by omega
            have Hv : Hid (varies m d = false) := by
              have := HA.out
              rw [List.take_of_length_le (by have := Hl.out; omega)] at this
              exact this
            have Hvn := Lib.hid (varyN_miss Hv.out)
            rw [← Hvn.out] at H
            go_wp2
            go_roundw
            case rel => exact ⟨d + 1, B, k, c, by omega, by go_num, rfl, H.out⟩
            case measure => simp [intOf]; omega
      · obtain rfl : d = 7 := by omega
        go_wp2
        go_ret
        rw [Hn.out]
        exact ⟨B, k, c, rfl, H.out.res 0 rfl, H.out.below⟩

set_option maxHeartbeats 4000000 in
set_option maxRecDepth 100000 in
theorem specVarying (A : Option Addr) (m : List Lt) (n cap : Nat) (hl : n = m.length) (w : World) (hn : n ≤ 1048576) (hs : ∀ x ∈ m, x.2.size ≤ 1048576) (h : Rd w 2 ltEnc A m) :
    Calls Try.prog 8 #[.slice A n cap] w fun e w' => InRet (varyR m) w e w' := by
  have Hl := Lib.hid hl
  have Hr := Lib.hid h
  have Hs := Lib.hid hs
  have H0 : Hid (Pool w (w.alloc (Obj.cells #[] 3)) [ownP 3 1 inEnc (.slice (some ⟨w.heap.size, 0, none⟩) 0 0) []]) := (Pool.nil_ w).addOwn ((Below.refl _ _).alloc (Nat.le_refl _) _) (Own.lit0 w 3 1 inEnc)
  clear h hs hl
  cases hv : batchOk m
  · have Hn : Hid (varyR m = []) := by show _ = _; unfold varyR; rw [hv]; rfl
    have Hv := Lib.hid hv
    clear hv
    go_enter Try.func8, Try.ntmps8
    go_wp2
    go_loopw [3, 4] (fun o i wr => i = .int .i64 0 ∧ o = .slice (some ⟨w.heap.size, 0, none⟩) 0 0 ∧ Hid (Pool w wr [ownP 3 1 inEnc (.slice (some ⟨w.heap.size, 0, none⟩) 0 0) []])) (fun _ _ _ => 0)
    case atStart => exact ⟨rfl, rfl, H0.out⟩
    case round =>
      clear H0
      obtain ⟨rfl, rfl, H⟩ := hrel
      go_wp2_with fail
      refine (specBatchValid _ m _ _ Hl.out _ (by omega) Hs.out (Hr.out.below H.out.below)).mono ?_
      rw [Hv.out]
      rintro e w1 ⟨rfl, hb⟩
      have H1 := Lib.hid (H.out.step hb)
      clear hb
      go_wp2
      go_ret
      rw [Hn.out]
      exact ⟨_, 0, 0, rfl, H1.out.res 0 rfl, H1.out.below⟩
  · have Hn : Hid (varyR m = varyN m 7) := by show _ = _; unfold varyR; rw [hv, if_pos rfl]
    have Hz : Hid (∀ x ∈ m, x.2.size = 7) := fun x hx => batch_size hv hx
    have Hv := Lib.hid hv
    clear hv
    go_enter Try.func8, Try.ntmps8
    go_wp2
    go_loopw [3, 4] (fun o i wr => ∃ (d : Nat) (B : Option Addr) (k c : Nat), d ≤ 7 ∧ i = .int .i64 d ∧ o = .slice B k c ∧ Hid (Pool w wr [ownP 3 1 inEnc (.slice B k c) (varyN m d)])) (fun _ i _ => 7 - (intOf i).toNat)
    case atStart => exact ⟨0, _, 0, 0, by omega, rfl, rfl, H0.out⟩
    case round =>
      clear H0
      obtain ⟨d, B, k, c, hd, rfl, rfl, H⟩ := hrel
      have hkd : k ≤ d := by rw [(H.out.own 0 rfl).len]; exact varyN_len m d
      by_cases hlt : d < 7
      · have hdI : (d : Int) < 7 := by omega
        go_wp2_with fail
        refine (specBatchValid _ m _ _ Hl.out _ (by omega) Hs.out (Hr.out.below H.out.below)).mono ?_
        rw [Hv.out]
        rintro e w1 ⟨rfl, hb⟩
        have H := Lib.hid (H.out.step hb)
        clear hb
        go_wp2
        go_loopw [5, 6] (fun vv i wq => ∃ (j : Nat) (v : Bool), 1 ≤ j ∧ (j ≤ n ∨ j = 1) ∧ i = .int .i64 j ∧ vv = .bool v ∧ Hid ((m.take j).any (differs m d) = v) ∧ Hid (Pool w wq [ownP 3 1 inEnc (.slice B k c) (varyN m d)])) (fun _ i _ => n - (intOf i).toNat)
        case atStart =>
          refine ⟨1, false, Nat.le_refl _, .inr rfl, rfl, rfl, ?_, H.out⟩
          show _ = _
          cases m with
          | nil => rfl
          | cons y r => simp [differs, firstC]
        case round =>
          clear H
          obtain ⟨j, v, hj1, hj, rfl, rfl, HA, H⟩ := hrel
          by_cases hjl : j < n
          · have hjI : (j : Int) < (n : Int) := by omega
            obtain ⟨x, hx⟩ : ∃ x, m[j]? = some x := ⟨_, List.getElem?_eq_getElem (by have := Hl.out; omega)⟩
            have hat := any_tk (p := differs m d) hx
            rw [HA.out] at hat
            cases v
            · obtain ⟨y, hy⟩ : ∃ y, m[0]? = some y := ⟨_, List.getElem?_eq_getElem (by have := Hl.out; omega)⟩
              have hxz := Hz.out x (List.mem_of_getElem? hx)
              have hyz := Hz.out y (List.mem_of_getElem? hy)
              have hxd : d < x.2.size := by omega
              have hyd : d < y.2.size := by omega
              obtain ⟨ad, rfl, hab, c0, c1⟩ := (Hr.out.below H.out.below).two hx rfl
              obtain ⟨ad', e', -, d0, d1⟩ := (Hr.out.below H.out.below).two hy rfl
              injection e' with e2
              subst e2
              rw [show ad.add (0 * 2) = ad from by cases ad; rfl] at d0 d1
              have hdif : differs m d x = !decide (x.2[d] = y.2[d]) := by
                unfold differs
                rw [firstC_at hy, decide_eq_decide.2 (dig_byte hxd hyd)]
              rw [Bool.false_or, hdif] at hat
              by_cases heq : x.2[d] = y.2[d]
              · have HA2 : Hid ((m.take (j + 1)).any (differs m d) = false) := by show _ = _; rw [hat, decide_eq_true heq]; rfl
                have hb1 : (x.2[d].toNat : Int) = (y.2[d].toNat : Int) := by rw [heq]
                have hb2 : ((x.2[d].toNat : Int) != (y.2[d].toNat : Int)) = false := by rw [hb1]; simp
                clear hx hy heq hdif hat
                go_wp2_with fail
                go_quiet (fail)
                go_wp2
                go_roundw
                case rel => exact ⟨j + 1, false, by omega, by omega, by go_num, rfl, HA2.out, H.out.drew _⟩
                case measure => simp [intOf]; omega
              · have HA2 : Hid ((m.take (j + 1)).any (differs m d) = true) := by show _ = _; rw [hat, decide_eq_false heq]; rfl
                have hne : ¬ (x.2[d].toNat : Int) = (y.2[d].toNat : Int) := fun e => heq (UInt8.toNat_inj.1 (by omega))
                have hb2 : ((x.2[d].toNat : Int) != (y.2[d].toNat : Int)) = true := by simpa using hne
                clear hx hy heq hdif hat
                go_wp2_with fail
                go_quiet (fail)
                go_wp2
                go_roundw
                case rel => exact ⟨j + 1, true, by omega, by omega, by go_num, rfl, HA2.out, H.out.drew _⟩
                case measure => simp [intOf]; omega
            · have HA2 : Hid ((m.take (j + 1)).any (differs m d) = true) := by show _ = _; rw [hat]; rfl
              clear hx hat
              go_wp2_with fail
              go_quiet (fail)
              go_wp2
              go_roundw
              case rel => exact ⟨j + 1, true, by omega, by omega, by go_num, rfl, HA2.out, H.out.drew _⟩
              case measure => simp [intOf]; omega
          · have hjI : ¬ (j : Int) < (n : Int) := by omega
            have Hvv : Hid (varies m d = v) := by
              have := HA.out
              rw [List.take_of_length_le (by have := Hl.out; omega)] at this
              exact this
            have Hlen := Lib.hid (H.out.own 0 rfl).len
            cases v
            · have Hvn := Lib.hid (varyN_miss Hvv.out)
              rw [← Hvn.out] at H
              go_wp2
              go_roundw
              case rel => exact ⟨d + 1, B, k, c, by omega, by go_num, rfl, H.out⟩
              case measure => simp [intOf]; omega
            · have Hvn := Lib.hid (varyN_hit Hvv.out)
              go_wp2_with (at_builtin; refine wpList_append1L (.tmp 40) (.tmp 42) 27 3 num_info Try.underlying27 rfl (by decide) rfl rfl (d : Int) rfl Hlen.out ((H.out.alloc (Obj.cells #[.int .i64 (d : Int)] 3)).own 0 rfl) rfl inEnc_len (in_cells (d : Int) rfl) (in_one _) (by omega) (by omega) (Nat.zero_le _) ?_; intro g5 c5 w5 ho5 hg5 hat5)
              have H5 := Lib.hid ((H.out.alloc (Obj.cells #[.int .i64 (d : Int)] 3)).append 0 rfl ho5 hg5 (fun q e => by injection e with e; subst e; exact hat5))
              rw [← Hvn.out] at H5
              clear ho5 hg5 hat5
              go_roundw
              case rel => exact ⟨d + 1, _, k + 1, c5, by omega, by go_num, rfl, H5.out⟩
              case measure => simp [intOf]; omega
      · obtain rfl : d = 7 := by omega
        go_wp2
        go_ret
        rw [Hn.out]
        exact ⟨B, k, c, rfl, H.out.res 0 rfl, H.out.below⟩
end Go.Proofs.Ytjibjoapbjojlaa
