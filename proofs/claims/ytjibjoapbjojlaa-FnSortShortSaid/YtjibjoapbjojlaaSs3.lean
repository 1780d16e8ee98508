/-
  Letters sorted by digits: the program's and the reference's.
-/
import Derived.Test.YtjibjoapbjojlaaSs2
import Derived.Test.YtjibjoapbjojlaaPlJb
namespace Go.Proofs.Ytjibjoapbjojlaa
open Go.RowKit

def LtsRet (r : List Lt) (ok : Bool) (w : World) (e : Ending) (w' : World) : Prop :=
  ∃ A n c, e = .returned (.tuple #[.slice A n c, .bool ok]) ∧ Own w' w.heap.size 39 2 ltEnc (.slice A n c) r ∧ Below w.heap.size w w'

set_option maxHeartbeats 2000000 in
set_option maxRecDepth 100000 in
theorem implCollect (A : Option Addr) (hs : List Value) (ls : List (List Lt)) (n cap : Nat) (hl : n = hs.length) (w : World) (hn : n ≤ 60) (hok : batchOk ls.flatten = true) (h : BinsRd w A hs ls) :
    Calls Try.prog 19 #[.slice A n cap] w fun e w' => LtsRet ls.flatten true w e w' := by
  have Hl := Lib.hid hl
  have Hh := Lib.hid h
  have Hm : Hid (ls.flatten.length ≤ 60) := ((batchOk_iff _).1 hok).1
  have Hok := Lib.hid hok
  clear h hl hok
  go_enter Try.func19, Try.ntmps19
  go_wp2
  go_loopw [12, 4] (fun i t wr => ∃ j : Nat, j ≤ n ∧ i = .int .i64 j ∧ ∃ A1 n1 c1, t = .slice A1 n1 c1 ∧ Below w.heap.size w wr ∧ Hid (Own wr w.heap.size 39 2 ltEnc (.slice A1 n1 c1) (ls.take j).flatten)) (fun i _ _ => n - (intOf i).toNat)
  case atStart => exact ⟨0, Nat.zero_le _, rfl, none, 0, 0, rfl, Below.refl _ _, by rw [List.take_zero]; exact Own.nil_ _ _ _ _ _⟩
  case round =>
    obtain ⟨j, hj, rfl, A1, n1, c1, rfl, hb, Ho⟩ := hrel
    by_cases hlt : j < n
    · obtain ⟨l, hlj⟩ : ∃ l, ls[j]? = some l := ⟨_, List.getElem?_eq_getElem (by have := Hh.out.len; have := Hl.out; omega)⟩
      obtain ⟨A2, c2, hv, h1, h2, h3⟩ := (Hh.out.below hb).inn j l hlj
      obtain ⟨ad, rfl, hab, c0⟩ := (Hh.out.below hb).out.one hv rfl
      have hF : Hid ((ls.take (j + 1)).flatten = (ls.take j).flatten ++ l) := flat_tk hlj
      have hsz : (ls.take j).flatten.length + l.length ≤ 60 := by
        have e1 := flat_tk_len ls (j + 1)
        rw [hF.out, List.length_append] at e1
        have := Hm.out
        omega
      have hn1 := Ho.out.len
      have hH2 := Lib.hid h2
      have hH3 := Lib.hid h3
      clear hv hlj h2 h3
      obtain ⟨y, hy⟩ : ∃ y, (ls.take j).flatten = y := ⟨_, rfl⟩
      rw [hy] at Ho hF hsz hn1
      clear hy
      have hle : ¬ (60 - (n1 : Int)) < (l.length : Int) := by omega
      have hn60 : n1 ≤ 60 := by omega
      clear hn1
      go_wp2_with (at_builtin; refine wpList_appendL (.tmp 22) (.tmp 23) 23 39 lt_info Try.underlying23 rfl (by decide) rfl rfl rfl Ho.out rfl rfl hH2.out ltEnc_len hH3.out (fun y _ => ltEnc_one y) (by omega) (by omega) hb.size ?_; intro A3 c3 w3 ho3 hg3)
      have hb3 := below_own hb hg3 Ho.out (Nat.le_refl _) hb.size
      go_roundw
      case rel => exact ⟨j + 1, by omega, by go_num, _, _, _, rfl, hb3, by rw [hF.out]; exact ho3⟩
      case measure => simp [intOf]; omega
    · obtain rfl : j = n := by omega
      have hO := Ho.out
      rw [List.take_of_length_le (by have := Hh.out.len; have := Hl.out; omega)] at hO
      have HO := Lib.hid hO
      have Hlen := Lib.hid hO.len
      have Hcap := Lib.hid hO.cap_le
      have hn60 : n1 ≤ 60 := by rw [hO.len]; exact Hm.out
      clear hO
      go_wp2_with fail
      refine (implBatchValid A1 ls.flatten n1 c1 Hlen.out Hcap.out _ (by omega) (fun x hx => by have := batch_size Hok.out hx; omega) (HO.out.rd ltEnc_len)).mono ?_
      rw [Hok.out]
      rintro e w2 ⟨rfl, hb2⟩
      have HB := Lib.hid (below_step hb hb2)
      have HO2 := Lib.hid (HO.out.below hb2)
      clear hb2
      go_wp2
      go_ret2
      exact ⟨A1, n1, c1, rfl, HO2.out, HB.out⟩

set_option maxHeartbeats 1000000 in
set_option maxRecDepth 100000 in
theorem implPass (d : Nat) (hd : d < 7) (D : Option Addr) (m : List Lt) (k cap : Nat) (hk : k = m.length) (hcap : k ≤ cap) (w : World) (hkn : k ≤ 1048576) (hv : batchOk m = true) (hm : Rd w 2 ltEnc D m) :
    Calls Try.prog 10 #[.slice D k cap, .int .i64 d] w fun e w' => LtsRet (passD d m) true w e w' := by
  have Hk := Lib.hid hk
  have Hm := Lib.hid hm
  have Hv := Lib.hid hv
  have Hp : Hid (batchOk (plBins 10 (digAt d) m).flatten = true) := stab_batch (passD_stab hd fun x hx => batch_codes hv hx) hv
  clear hm hk hv
  go_enter Try.func10, Try.ntmps10
  go_wp2_with fail
  refine (implBins d hd D m k cap Hk.out hcap _ hkn Hv.out Hm.out).mono ?_
  rintro e w1 ⟨v, rfl, hr⟩
  obtain ⟨A1, hs, rfl, hl, hrd, hb⟩ := hr.rd
  have HR := Lib.hid hrd
  have HB := Lib.hid hb
  have Hl := Lib.hid hl
  clear hr hrd hb hl
  go_wp2_with fail
  refine (implCollect A1 hs _ 10 10 Hl.out.symm _ (by omega) Hp.out HR.out).mono ?_
  rintro e w2 ⟨A2, n2, c2, rfl, ho, hb⟩
  have HO := Lib.hid ho
  have HB2 := Lib.hid (below_step HB.out hb)
  have hz := HB.out.size
  clear ho hb
  go_wp2
  go_ret2
  exact ⟨A2, n2, c2, rfl, HO.out.lower hz, HB2.out⟩

theorem shortD_step {ds : List Nat} {m : List Lt} {j d : Nat} (h : ds[j]? = some d) : shortD (ds.drop j) m = passD d (shortD (ds.drop (j + 1)) m) := by
  obtain ⟨hj, rfl⟩ := List.getElem?_eq_some_iff.1 h
  rw [List.drop_eq_getElem_cons hj]; rfl
theorem drop_lt {ds : List Nat} (h : ∀ d ∈ ds, d < 7) (j : Nat) : ∀ d ∈ ds.drop j, d < 7 := fun d hd => h d (List.mem_of_mem_drop hd)

set_option maxHeartbeats 2000000 in
set_option maxRecDepth 100000 in
theorem specSort (D : Option Addr) (m : List Lt) (k cap : Nat) (hk : k = m.length) (hnil : D = none → cap = 0) (B : Option Addr) (ds : List Nat) (q c : Nat) (hq : q = ds.length) (hds : ∀ d ∈ ds, d < 7) (w : World) (hq7 : q ≤ 7) (hv : batchOk m = true) (hm : Rd w 2 ltEnc D m) (hr : Rd w 1 inEnc B (ds.map fun d : Nat => (d : Int))) :
    Calls Try.prog 17 #[.slice D k cap, .slice B q c] w fun e w' => ∃ A n c, e = .returned (.slice A n c) ∧ Own w' w.heap.size 39 2 ltEnc (.slice A n c) (shortD ds m) ∧ Below w.heap.size w w' := by
  have Hk := Lib.hid hk
  have Hm := Lib.hid hm
  have Hr := Lib.hid hr
  have Hq := Lib.hid hq
  have Hv := Lib.hid hv
  have Hds := Lib.hid hds
  have Hnil := Lib.hid hnil
  have hk60 : k ≤ 60 := by rw [hk]; exact ((batchOk_iff m).1 hv).1
  have Hst : Hid (∀ j, Stab m (shortD (ds.drop j) m)) := fun j => shortD_stab (fun x hx => batch_codes hv hx) _ (drop_lt hds j)
  have H0 : Hid (Pool w (w.alloc (Obj.cells #[] 39)) [ownP 39 2 ltEnc (.slice (some ⟨w.heap.size, 0, none⟩) 0 0) []]) := (Pool.nil_ w).addOwn ((Below.refl _ _).alloc (Nat.le_refl _) _) (Own.lit0 w 39 2 ltEnc)
  have Hrm := Lib.hid (Hm.out.below H0.out.below)
  clear hm hk hr hq hv hds hnil
  go_enter Try.func17, Try.ntmps17
  go_wp2_with (at_builtin; refine wpList_appendAt (.tmp 7) (.tmp 8) 23 39 lt_info Try.underlying23 rfl (by decide) rfl rfl rfl rfl (H0.out.own 0 rfl).len (H0.out.own 0 rfl) Hk.out Hnil.out ltEnc_len Hrm.out (fun y _ => ltEnc_one y) (by omega) (by omega) (Nat.zero_le _) ?_; intro A7 c7 w7 ho7 hg7 hat7; rw [Nat.zero_add] at ho7 hat7 ⊢; rw [List.nil_append] at ho7; have H7 := Lib.hid (H0.out.append 0 rfl ho7 hg7 hat7); clear ho7 hg7 hat7)
  go_loopw [5, 6] (fun o i wr => ∃ (j : Nat) (i' : Int), j ≤ q ∧ i' = (j : Int) - 1 ∧ i = .int .i64 i' ∧ ∃ A1 n1 c1, o = .slice A1 n1 c1 ∧ Hid (Pool w wr [ownP 39 2 ltEnc (.slice A1 n1 c1) (shortD (ds.drop j) m)])) (fun _ i _ => (intOf i + 1).toNat)
  case atStart =>
    refine ⟨q, (q : Int) - 1, Nat.le_refl _, rfl, rfl, A7, k, c7, rfl, ?_⟩
    rw [List.drop_of_length_le (by rw [Hq.out]; exact Nat.le_refl _)]
    exact H7.out
  case round =>
    clear H7 H0 Hrm
    obtain ⟨j, i', hj, hi', rfl, A1, n1, c1, rfl, H⟩ := hrel
    cases j with
    | zero =>
      obtain rfl : i' = -1 := by omega
      clear hi'
      go_wp2
      go_ret
      exact ⟨A1, n1, c1, rfl, H.out.res 0 rfl, H.out.below⟩
    | succ j =>
      obtain rfl : i' = (j : Int) := by omega
      clear hi'
      obtain ⟨d, hdj⟩ : ∃ d, ds[j]? = some d := ⟨_, List.getElem?_eq_getElem (by have := Hq.out; omega)⟩
      have hd7 := Hds.out d (List.mem_of_getElem? hdj)
      have hmj : (ds.map fun d : Nat => (d : Int))[j]? = some (d : Int) := by rw [List.getElem?_map, hdj]; rfl
      obtain ⟨ad, rfl, hab, c0⟩ := (Hr.out.below H.out.below).one hmj rfl
      have Hsp : Hid (shortD (ds.drop j) m = passD d (shortD (ds.drop (j + 1)) m)) := shortD_step hdj
      have hst := Hst.out (j + 1)
      have hlen := (H.out.own 0 rfl).len
      obtain ⟨y, hy⟩ : ∃ y, shortD (ds.drop (j + 1)) m = y := ⟨_, rfl⟩
      rw [hy] at hst hlen H Hsp
      have Hvy : Hid (batchOk y = true) := stab_batch hst Hv.out
      have hy60 : n1 ≤ 60 := by rw [hlen]; exact ((batchOk_iff y).1 Hvy.out).1
      have Hlen := Lib.hid hlen
      have Hfl : Hid ((plBins 10 (digAt d) y).flatten.length ≤ 16777216) := by have := plFlat_len (f := digAt d) 10 y; show _ ≤ _; omega
      clear hdj hmj hst hlen hy
      go_wp2_with fail
      refine (specBins d hd7 A1 y n1 c1 Hlen.out _ (by omega) Hvy.out ((H.out.own 0 rfl).rd ltEnc_len)).mono ?_
      rintro e w2 ⟨v, rfl, hr2⟩
      obtain ⟨A2, hs, rfl, hl2, hrd, hb⟩ := hr2.rd
      have HR := Lib.hid hrd
      have HB := Lib.hid (below_step H.out.below hb)
      have Hl2 := Lib.hid hl2
      clear hr2 hrd hb hl2
      go_wp2_with fail
      refine (specCollect A2 hs _ 10 10 Hl2.out.symm _ (by omega) Hfl.out HR.out).mono ?_
      rintro e w3 ⟨A3, n3, c3, rfl, ho, hb⟩
      have H3 : Hid (Pool w w3 [ownP 39 2 ltEnc (.slice A3 n3 c3) (passD d y)]) := (Pool.of_below HB.out).addOwn hb ho
      rw [← Hsp.out] at H3
      clear ho hb
      go_wp2
      go_roundw
      case rel => exact ⟨j, (j : Int) - 1, by omega, rfl, by go_num, A3, n3, c3, rfl, H3.out⟩
      case measure => simp [intOf]

/-- What sorting by the digits that vary returns. -/
def shortR (m : List Lt) : List Lt := if batchOk m then sortLt m else []

set_option maxHeartbeats 2000000 in
set_option maxRecDepth 100000 in
theorem specShort (D : Option Addr) (m : List Lt) (k cap : Nat) (hk : k = m.length) (hnil : D = none → cap = 0) (w : World) (hkn : k ≤ 1048576) (hs : ∀ x ∈ m, x.2.size ≤ 1048576) (hm : Rd w 2 ltEnc D m) :
    Calls Try.prog 6 #[.slice D k cap] w fun e w' => LtsRet (shortR m) (batchOk m) w e w' := by
  have Hk := Lib.hid hk
  have Hm := Lib.hid hm
  have Hs := Lib.hid hs
  have Hnil := Lib.hid hnil
  clear hk hm hs hnil
  cases hv : batchOk m
  · have Hn : Hid (shortR m = []) := by show _ = _; unfold shortR; rw [hv]; rfl
    go_enter Try.func6, Try.ntmps6
    go_wp2_with fail
    refine (specBatchValid _ m _ _ Hk.out _ (by omega) Hs.out Hm.out).mono ?_
    rw [hv]
    rintro e w1 ⟨rfl, hb⟩
    have H1 : Hid (Pool w (w1.alloc (Obj.cells #[] 39)) [ownP 39 2 ltEnc (.slice (some ⟨w1.heap.size, 0, none⟩) 0 0) []]) := (Pool.of_below hb).addOwn ((Below.refl _ _).alloc (Nat.le_refl _) _) (Own.lit0 w1 39 2 ltEnc)
    clear hb hv
    go_wp2
    go_ret2
    rw [Hn.out]
    exact ⟨_, 0, 0, rfl, H1.out.res 0 rfl, H1.out.below⟩
  · have Hn : Hid (shortR m = shortD (vary m) m) := by show _ = _; unfold shortR; rw [hv, if_pos rfl, short_sort fun x hx => batch_codes hv hx]
    have Hvr : Hid (varyR m = (vary m).map fun d : Nat => (d : Int)) := by show _ = _; unfold varyR; rw [hv, if_pos rfl]; rfl
    have Hv := Lib.hid hv
    have hl7 : (vary m).length ≤ 7 := by have := List.length_filter_le (varies m) (List.range 7); rw [List.length_range] at this; exact this
    go_enter Try.func6, Try.ntmps6
    go_wp2_with fail
    refine (specBatchValid _ m _ _ Hk.out _ (by omega) Hs.out Hm.out).mono ?_
    rw [hv]
    rintro e w1 ⟨rfl, hb⟩
    have H1 := Lib.hid (Pool.of_below hb)
    clear hb hv
    go_wp2_with fail
    refine (specVarying D m k cap Hk.out _ hkn Hs.out (Hm.out.below H1.out.below)).mono ?_
    rw [Hvr.out]
    rintro e w2 ⟨A2, n2, c2, rfl, ho, hb⟩
    have H2 := Lib.hid (H1.out.addOwn hb ho)
    have hn2 : n2 = (vary m).length := by rw [ho.len, List.length_map]
    have Hn2 := Lib.hid hn2
    have hn27 : n2 ≤ 7 := by omega
    clear ho hb hn2
    go_wp2_with fail
    refine (specSort D m k cap Hk.out Hnil.out A2 (vary m) n2 c2 Hn2.out vary_lt _ hn27 Hv.out (Hm.out.below H2.out.below) ((H2.out.own 0 rfl).rd inEnc_len)).mono ?_
    rintro e w3 ⟨A3, n3, c3, rfl, ho, hb⟩
    have H3 := Lib.hid (H2.out.addOwn hb ho)
    clear ho hb
    go_wp2
    go_ret2
    rw [Hn.out]
    exact ⟨A3, n3, c3, rfl, H3.out.res 0 rfl, H3.out.below⟩

set_option maxHeartbeats 2000000 in
set_option maxRecDepth 100000 in
theorem implShort (D : Option Addr) (m : List Lt) (k cap : Nat) (hk : k = m.length) (hcap : k ≤ cap) (w : World) (hkn : k ≤ 1048576) (hs : ∀ x ∈ m, x.2.size ≤ 1048576) (hm : Rd w 2 ltEnc D m) :
    Calls Try.prog 5 #[.slice D k cap] w fun e w' => LtsRet (shortR m) (batchOk m) w e w' := by
  have Hk := Lib.hid hk
  have Hm := Lib.hid hm
  have Hs := Lib.hid hs
  clear hk hm hs
  cases hv : batchOk m
  · have Hn : Hid (shortR m = []) := by show _ = _; unfold shortR; rw [hv]; rfl
    go_enter Try.func5, Try.ntmps5
    go_wp2_with fail
    refine (implBatchValid _ m _ _ Hk.out hcap _ (by omega) Hs.out Hm.out).mono ?_
    rw [hv]
    rintro e w1 ⟨rfl, hb⟩
    have HB := Lib.hid hb
    clear hb hv
    go_wp2
    go_ret2
    rw [Hn.out]
    exact ⟨none, 0, 0, rfl, Own.nil_ _ _ _ _ _, HB.out⟩
  · have Hn : Hid (shortR m = shortD (vary m) m) := by show _ = _; unfold shortR; rw [hv, if_pos rfl, short_sort fun x hx => batch_codes hv hx]
    have Hvr : Hid (varyR m = (vary m).map fun d : Nat => (d : Int)) := by show _ = _; unfold varyR; rw [hv, if_pos rfl]; rfl
    have Hv := Lib.hid hv
    have hk60 : k ≤ 60 := by rw [Hk.out]; exact ((batchOk_iff m).1 hv).1
    have hl7 : (vary m).length ≤ 7 := by have := List.length_filter_le (varies m) (List.range 7); rw [List.length_range] at this; exact this
    obtain ⟨ds, hds⟩ : ∃ ds, vary m = ds := ⟨_, rfl⟩
    have Hds : Hid (∀ d ∈ ds, d < 7) := by rw [← hds]; exact vary_lt
    have Hst : Hid (∀ j, Stab m (shortD (ds.drop j) m)) := fun j => shortD_stab (fun x hx => batch_codes hv hx) _ (drop_lt Hds.out j)
    rw [hds] at Hn Hvr hl7
    clear hds
    go_enter Try.func5, Try.ntmps5
    go_wp2_with fail
    refine (implBatchValid _ m _ _ Hk.out hcap _ (by omega) Hs.out Hm.out).mono ?_
    rw [hv]
    rintro e w1 ⟨rfl, hb⟩
    have H1 := Lib.hid (Pool.of_below hb)
    clear hb hv
    go_wp2_with fail
    refine (implCopyLetters D m k cap Hk.out _ (by omega) (Hm.out.below H1.out.below)).mono ?_
    rintro e w2 ⟨g, rfl, ho, hb⟩
    have H2 := Lib.hid (H1.out.addOwn hb ho)
    clear ho hb
    go_wp2_with fail
    refine (implVarying D m k cap Hk.out hcap _ hkn Hs.out (Hm.out.below H2.out.below)).mono ?_
    rw [Hvr.out]
    rintro e w3 ⟨A3, q, c3, rfl, ho, hb⟩
    have H3 := Lib.hid ((H2.out.addOwn hb ho).perm (List.Perm.swap _ _ _))
    have hq : q = ds.length := by rw [ho.len, List.length_map]
    have Hq := Lib.hid hq
    have hq7 : q ≤ 7 := by omega
    clear ho hb hq
    go_wp2
    go_loopw [4, 6] (fun o i wr => ∃ (j : Nat) (i' : Int), j ≤ q ∧ i' = (j : Int) - 1 ∧ i = .int .i64 i' ∧ ∃ A1 n1 c1, o = .slice A1 n1 c1 ∧ Hid (Pool w wr [ownP 39 2 ltEnc (.slice A1 n1 c1) (shortD (ds.drop j) m), ownP 3 1 inEnc (.slice A3 q c3) (ds.map fun d : Nat => (d : Int))])) (fun _ i _ => (intOf i + 1).toNat)
    case atStart =>
      refine ⟨q, (q : Int) - 1, Nat.le_refl _, rfl, rfl, some ⟨g, 0, none⟩, k, k, rfl, ?_⟩
      rw [List.drop_of_length_le (by rw [Hq.out]; exact Nat.le_refl _)]
      exact H3.out
    case round =>
      clear H3 H2 H1
      obtain ⟨j, i', hj, hi', rfl, A1, n1, c1, rfl, H⟩ := hrel
      cases j with
      | zero =>
        obtain rfl : i' = -1 := by omega
        clear hi'
        go_wp2
        go_ret2
        rw [Hn.out]
        exact ⟨A1, n1, c1, rfl, H.out.res 0 rfl, H.out.below⟩
      | succ j =>
        obtain rfl : i' = (j : Int) := by omega
        clear hi'
        obtain ⟨d, hdj⟩ : ∃ d, ds[j]? = some d := ⟨_, List.getElem?_eq_getElem (by have := Hq.out; omega)⟩
        have hd7 := Hds.out d (List.mem_of_getElem? hdj)
        have hmj : (ds.map fun d : Nat => (d : Int))[j]? = some (d : Int) := by rw [List.getElem?_map, hdj]; rfl
        obtain ⟨ad, rfl, hab, c0⟩ := ((H.out.own 1 rfl).rd inEnc_len).one hmj rfl
        have Hsp : Hid (shortD (ds.drop j) m = passD d (shortD (ds.drop (j + 1)) m)) := shortD_step hdj
        have hst := Hst.out (j + 1)
        have hlen := (H.out.own 0 rfl).len
        obtain ⟨y, hy⟩ : ∃ y, shortD (ds.drop (j + 1)) m = y := ⟨_, rfl⟩
        rw [hy] at hst hlen H Hsp
        have Hvy : Hid (batchOk y = true) := stab_batch hst Hv.out
        have hy60 : n1 ≤ 60 := by rw [hlen]; exact ((batchOk_iff y).1 Hvy.out).1
        have Hlen := Lib.hid hlen
        have Hcap := Lib.hid (H.out.own 0 rfl).cap_le
        have hjq : (j : Int) < (q : Int) := by omega
        clear hdj hmj hst hlen hy
        go_wp2_with fail
        refine (implPass d hd7 A1 y n1 c1 Hlen.out Hcap.out _ (by omega) Hvy.out ((H.out.own 0 rfl).rd ltEnc_len)).mono ?_
        rintro e w4 ⟨A4, n4, c4, rfl, ho, hb⟩
        have H4 := Lib.hid ((H.out.addOwn hb ho).drop 1)
        rw [← Hsp.out] at H4
        clear ho hb
        go_wp2
        go_roundw
        case rel => exact ⟨j, (j : Int) - 1, by omega, rfl, by go_num, A4, n4, c4, rfl, H4.out⟩
        case measure => simp [intOf]
end Go.Proofs.Ytjibjoapbjojlaa
