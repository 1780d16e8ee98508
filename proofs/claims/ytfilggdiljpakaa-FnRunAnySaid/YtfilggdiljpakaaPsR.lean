/-
  All passes: the program's and the reference's.
-/
import Derived.Test.YtfilggdiljpakaaPsB
import Derived.Test.YtfilggdiljpakaaAppL
import Derived.Test.YtfilggdiljpakaaPlD
import Derived.Deep.RegionHeld3
namespace Go.Proofs.Ytfilggdiljpakaa
open Go.RowKit

def passF (B : Nat) (l : List Str) (k : Nat) : Str → Int := fun c => binVal (B : Int) l c (k : Int)
def passN (B : Nat) (l : List Str) : Nat → List Lt → List Lt
  | 0, m => m
  | k + 1, m => (plBins B (passF B l k) (passN B l k m)).flatten
def outN (B : Nat) (l : List Str) : Nat → List Lt → List Lt
  | 0, _ => []
  | k + 1, m => outN B l k m ++ plRest (passF B l k) (passN B l k m)
theorem passN_len (B : Nat) (l : List Str) : ∀ (k : Nat) (m : List Lt), (passN B l k m).length ≤ m.length
  | 0, _ => Nat.le_refl _
  | k + 1, m => Nat.le_trans (plFlat_len _ _) (passN_len B l k m)
theorem passN_rank {B : Nat} {l : List Str} {k : Nat} {m : List Lt} {x : Lt} (h : x ∈ passN B l (k + 1) m) : strIdx l x.2 ≠ none := by
  obtain ⟨y, hy, hx⟩ := List.mem_flatten.1 h
  obtain ⟨i, _, rfl⟩ := List.mem_map.1 hy
  have h2 := (List.mem_filter.1 hx).2
  intro hn
  have h3 := of_decide_eq_true h2
  unfold passF binVal at h3
  rw [hn] at h3
  have h4 : (-1 : Int) = (i : Int) := h3
  omega
theorem outN_eq {B : Nat} (hB : 2 ≤ B) (l : List Str) (m : List Lt) : ∀ k, outN B l (k + 1) m = plRest (passF B l 0) m
  | 0 => by simp [outN, passN]
  | k + 1 => by
    show outN B l (k + 1) m ++ plRest (passF B l (k + 1)) (passN B l (k + 1) m) = _
    rw [outN_eq hB l m k]
    have : plRest (passF B l (k + 1)) (passN B l (k + 1) m) = [] := by
      unfold plRest
      rw [List.filter_eq_nil_iff]
      intro x hx
      have hr := passN_rank hx
      have hs : ¬ passF B l (k + 1) x.2 < 0 := by
        rcases binVal_sign (b := (B : Int)) (by omega) l x.2 ((k + 1 : Nat) : Int) with ⟨_, h⟩ | ⟨q, _, h, _⟩
        · exact absurd h hr
        · unfold passF; rw [h]; omega
      simpa using hs
    rw [this, List.append_nil]
theorem outN_len {B : Nat} (hB : 2 ≤ B) (l : List Str) (m : List Lt) : ∀ k, (outN B l k m).length ≤ m.length
  | 0 => Nat.zero_le _
  | k + 1 => by rw [outN_eq hB]; exact plRest_len _ _

theorem LtRet2.of_pool {w w' : World} {A A' : Option Addr} {n c n' c' : Nat} {f k : List Lt} {rest : List Piece} (h : Pool w w' (ownP 41 2 ltEnc (.slice A n c) f :: ownP 41 2 ltEnc (.slice A' n' c') k :: rest)) :
    LtRet2 ⟨f, k, true⟩ w (.returned (.tuple #[.slice A n c, .slice A' n' c', .bool true])) w' :=
  ⟨A, n, c, A', n', c', rfl, h.res 0 rfl, h.res 1 rfl, fun g e e' => (List.pairwise_cons.1 h.apart).1 (ownP 41 2 ltEnc (.slice A' n' c') k) (by simp) g (mem_own.2 e) (mem_own.2 e'), h.below⟩

set_option maxHeartbeats 4000000 in
set_option maxRecDepth 100000 in
theorem implDoPasses (B : Nat) (p : Int) (A : Option Addr) (l : List Str) (n cap : Nat) (hl : n = l.length) (D : Option Addr) (m : List Lt) (k capm : Nat) (hk : k = m.length) (E : Nat) (w : World) (hn : n ≤ 16777216) (hkn : k ≤ 1048576) (h1 : 2 ≤ B) (h2 : B ≤ 16) (hE : E ≤ 4) (h : Rd w 1 strEnc A l) (hm : Rd w 2 ltEnc D m) :
    Calls Try.prog 28 #[.agg #[.int .i64 B, .int .i64 p, .slice A n cap], .slice D k capm, .int .i64 0, .int .i64 E] w fun e w' => ∃ A1 n1 c1 A2 n2 c2, e = .returned (.tuple #[.slice A1 n1 c1, .slice A2 n2 c2]) ∧ Pool w w' [ownP 41 2 ltEnc (.slice A1 n1 c1) (passN B l E m), ownP 41 2 ltEnc (.slice A2 n2 c2) (outN B l E m)] := by
  have Hl := Lib.hid hl
  have Hk := Lib.hid hk
  have Hr := Lib.hid h
  have Hm := Lib.hid hm
  clear h hm hl hk
  have H : Hid (Pool w (w.alloc (Obj.cells #[.int .i64 B, .int .i64 p, .slice A n cap] 35)) [boxP w.heap.size (.int .i64 B) (.int .i64 p) (.slice A n cap)]) := (Pool.nil_ w).addBox rfl _ _ _ _
  go_enter Try.func28, Try.ntmps28
  go_wp2_with fail
  refine (implCopyLetters D m _ _ Hk.out _ (by omega) (Hm.out.below H.out.below)).mono ?_
  rintro e w1 ⟨g1, rfl, ho, hb⟩
  have H : Hid (Pool w w1 [ownP 41 2 ltEnc (.slice (some ⟨g1, 0, none⟩) k k) m, ownP 41 2 ltEnc (.slice none 0 0) [], boxP w.heap.size (.int .i64 B) (.int .i64 p) (.slice A n cap)]) :=
    (H.out.add (Below.refl _ _) (ownP 41 2 ltEnc (.slice none 0 0) []) (Own.nil_ _ _ _ _ _) (fun k hk => by simp [ownP, Value.ownBlock] at hk)).addOwn hb ho
  clear ho hb
  go_wp2_with fail
  go_loopw [12, 10, 11] (fun i t o wr => ∃ j : Nat, j ≤ E ∧ i = .int .i64 j ∧ ∃ A1 n1 c1 A2 n2 c2, t = .slice A1 n1 c1 ∧ o = .slice A2 n2 c2 ∧ Hid (Pool w wr [ownP 41 2 ltEnc (.slice A1 n1 c1) (passN B l j m), ownP 41 2 ltEnc (.slice A2 n2 c2) (outN B l j m), boxP w.heap.size (.int .i64 B) (.int .i64 p) (.slice A n cap)])) (fun i _ _ _ => E - (intOf i).toNat)
  case atStart => exact ⟨0, Nat.zero_le _, rfl, _, k, k, none, 0, 0, rfl, rfl, H.out⟩
  case round =>
    clear H
    obtain ⟨j, hj, rfl, A1, n1, c1, A2, n2, c2, rfl, rfl, H⟩ := hrel
    by_cases hlt : j < E
    · have hnl := (H.out.own 0 rfl).len
      have hpl := passN_len B l j m
      have hol := outN_len h1 l m j
      have hol1 := outN_len h1 l m (j + 1)
      have hn1 : n1 ≤ 1048576 := by have := Hk.out; omega
      have hno := (H.out.own 1 rfl).len
      have hn2 : n2 ≤ 1048576 := by have := Hk.out; omega
      have Hnl := Lib.hid hnl
      have Hno := Lib.hid hno
      have Hpl := Lib.hid hpl
      have Hol1 := Lib.hid hol1
      clear hnl hpl hol hol1 hno
      obtain ⟨-, c0, c1', c2', -⟩ := H.out.box 2 rfl
      go_wp2_with fail
      refine (implPlace B p A l _ _ Hl.out A1 (passN B l j m) n1 c1 Hnl.out (j : Int) _ hn (by omega) h1 h2 (by omega) (by omega) (Hr.out.below H.out.below) ((H.out.own 0 rfl).rd ltEnc_len)).mono ?_
      rintro e w2 ⟨g, hs, A3, n3, c3, rfl, hlen, hp⟩
      rw [show (fun c => binVal (B : Int) l c (j : Int)) = passF B l j from rfl] at hp
      have HP := Lib.hid hp
      have Hlen := Lib.hid hlen
      clear hp hlen c0 c1' c2'
      have HR : Hid (BinsRd w2 (some ⟨g, 0, none⟩) hs (plBins B (passF B l j) (passN B l j m))) := HP.out.binsRd (T := 41) (fun p hp => by simp [hp]) (by rw [plBins_len]; exact Hlen.out)
      have H2 : Hid (Pool w w2 [ownP 41 2 ltEnc (.slice A3 n3 c3) (plRest (passF B l j) (passN B l j m)), ownP 41 2 ltEnc (.slice A2 n2 c2) (outN B l j m), boxP w.heap.size (.int .i64 B) (.int .i64 p) (.slice A n cap)]) :=
        (H.out.join HP.out).sub (List.Sublist.cons _ (List.Sublist.cons_cons _ (List.Sublist.trans (List.Sublist.cons _ (List.Sublist.refl _)) (List.sublist_append_right _ _))))
      clear H HP
      go_wp2_with fail
      refine (implJoin (some ⟨g, 0, none⟩) hs (plBins B (passF B l j) (passN B l j m)) B B Hlen.out.symm _ (by omega) (by have e1 := plFlat_len (f := passF B l j) B (passN B l j m); have := Hpl.out; have := Hk.out; omega) HR.out).mono ?_
      rintro e w3 ⟨A4, n4, c4, rfl, ho, hb⟩
      have H3 : Hid (Pool w w3 [ownP 41 2 ltEnc (.slice A4 n4 c4) (passN B l (j + 1) m), ownP 41 2 ltEnc (.slice A3 n3 c3) (plRest (passF B l j) (passN B l j m)), ownP 41 2 ltEnc (.slice A2 n2 c2) (outN B l j m), boxP w.heap.size (.int .i64 B) (.int .i64 p) (.slice A n cap)]) := H2.out.addOwn hb ho
      clear H2 ho hb HR
      obtain ⟨A3', c3', he3, hc3, hnil3, hrd3⟩ := (H3.out.own 1 rfl).formN ltEnc_len
      injection he3 with e1 e2 e3
      subst e1 e3
      have hsz : (outN B l j m).length + (plRest (passF B l j) (passN B l j m)).length ≤ 1048576 := by
        have := Hol1.out
        rw [show outN B l (j + 1) m = outN B l j m ++ plRest (passF B l j) (passN B l j m) from rfl, List.length_append] at this
        have := Hk.out
        omega
      have He2 := Lib.hid e2
      have Hnil3 := Lib.hid hnil3
      have Hrd3 := Lib.hid hrd3
      have Ho2 := Lib.hid (H3.out.own 2 rfl)
      clear e2 hnil3 hrd3 hc3
      obtain ⟨y, hy⟩ : ∃ y, outN B l j m = y := ⟨_, rfl⟩
      obtain ⟨z, hz⟩ : ∃ z, plRest (passF B l j) (passN B l j m) = z := ⟨_, rfl⟩
      have HY : Hid (outN B l (j + 1) m = y ++ z) := by show _ = _; rw [← hy, ← hz]; rfl
      rw [hy, hz] at H3
      rw [hz] at He2 Hrd3
      rw [hy] at Ho2
      rw [hy, hz] at hsz
      clear hy hz
      have He2' : n3 = z.length := He2.out
      subst He2'
      go_wp2_with (at_builtin; refine wpList_appendAt (.tmp 32) (.tmp 33) 23 41 lt_info Try.underlying23 rfl (by decide) rfl rfl rfl rfl Ho2.out.len Ho2.out rfl Hnil3.out ltEnc_len Hrd3.out (fun y _ => ltEnc_one y) (by have := Ho2.out.len; omega) (by have := Ho2.out.len; omega) (Nat.zero_le _) ?_; intro A5 c5 w5 ho5 hg5 hat5)
      have H5 := Lib.hid ((H3.out.append 2 rfl ho5 hg5 hat5).drop 1)
      go_roundw
      case rel => exact ⟨j + 1, by omega, by go_num, A4, n4, c4, A5, _, c5, rfl, rfl, by rw [HY.out]; exact H5.out⟩
      case measure => simp [intOf]; omega
    · obtain rfl : j = E := by omega
      go_wp2
      go_ret2
      exact ⟨A1, n1, c1, A2, n2, c2, rfl, H.out.drop 2⟩

def runR (b p : Int) (l : List Str) (m : List Lt) : LtR := if planOk b p l && batchOk m then ⟨passN b.toNat l p.toNat m, outN b.toNat l p.toNat m, true⟩ else noLtR
theorem runR_len {b p : Int} {l : List Str} {m : List Lt} (hm : m.length ≤ 1048576) : (runR b p l m).f.length ≤ 1048576 ∧ (runR b p l m).k.length ≤ 1048576 := by
  unfold runR
  split
  · rename_i h
    simp only [Bool.and_eq_true] at h
    have hb := (planOk_parts h.1).1
    exact ⟨Nat.le_trans (passN_len _ _ _ _) hm, Nat.le_trans (outN_len (by omega) _ _ _) hm⟩
  · exact ⟨Nat.zero_le _, Nat.zero_le _⟩

set_option maxHeartbeats 2000000 in
set_option maxRecDepth 100000 in
theorem implRunPlan (b p : Int) (A D : Option Addr) (l : List Str) (m : List Lt) (n cap k capm : Nat) (hl : n = l.length) (hk : k = m.length) (hcap : n ≤ cap) (hcapm : k ≤ capm) (w : World) (hn : n ≤ 1048576) (hkn : k ≤ 1048576) (hs : ∀ x ∈ l, x.size ≤ 1048576) (hsm : ∀ x ∈ m, x.2.size ≤ 1048576) (h : Rd w 1 strEnc A l) (hm : Rd w 2 ltEnc D m) :
    Calls Try.prog 14 #[.agg #[.int .i64 b, .int .i64 p, .slice A n cap], .slice D k capm] w fun e w' => LtRet2 (runR b p l m) w e w' := by
  have Hl := Lib.hid hl
  have Hk := Lib.hid hk
  have Hr := Lib.hid h
  have Hm := Lib.hid hm
  have Hs := Lib.hid hs
  have Hsm := Lib.hid hsm
  clear h hs hl hk hm hsm
  have H : Hid (Pool w (w.alloc (Obj.cells #[.int .i64 b, .int .i64 p, .slice A n cap] 35)) [boxP w.heap.size (.int .i64 b) (.int .i64 p) (.slice A n cap)]) := (Pool.nil_ w).addBox rfl _ _ _ _
  cases hv : planOk b p l
  · have Hd : Hid (runR b p l m = noLtR) := by show runR _ _ _ _ = _; unfold runR; rw [hv]; rfl
    go_enter Try.func14, Try.ntmps14
    go_wp2_with fail
    refine (implPlanValid b p A l _ _ Hl.out hcap _ (by omega) Hs.out (Hr.out.below H.out.below)).mono ?_
    rw [hv]
    rintro e w1 ⟨rfl, hb⟩
    have H := Lib.hid (H.out.step hb)
    clear hb
    go_wp2
    go_ret3
    rw [Hd.out]
    exact noLt w H.out.below
  · cases hw : batchOk m
    · have Hd : Hid (runR b p l m = noLtR) := by show runR _ _ _ _ = _; unfold runR; rw [hv, hw]; rfl
      go_enter Try.func14, Try.ntmps14
      go_wp2_with fail
      refine (implPlanValid b p A l _ _ Hl.out hcap _ (by omega) Hs.out (Hr.out.below H.out.below)).mono ?_
      rw [hv]
      rintro e w1 ⟨rfl, hb⟩
      have H := Lib.hid (H.out.step hb)
      clear hb
      go_wp2_with fail
      refine (implBatchValid D m _ _ Hk.out hcapm _ (by omega) Hsm.out (Hm.out.below H.out.below)).mono ?_
      rw [hw]
      rintro e w2 ⟨rfl, hb⟩
      have H := Lib.hid (H.out.step hb)
      clear hb
      go_wp2
      go_ret3
      rw [Hd.out]
      exact noLt w H.out.below
    · obtain ⟨hb1, hp1, -⟩ := planOk_parts hv
      obtain ⟨B, rfl⟩ : ∃ B : Nat, b = B := ⟨b.toNat, by omega⟩
      obtain ⟨E, rfl⟩ : ∃ E : Nat, p = E := ⟨p.toNat, by omega⟩
      have Hd : Hid (runR B E l m = ⟨passN B l E m, outN B l E m, true⟩) := by show runR _ _ _ _ = _; unfold runR; rw [hv, hw]; rfl
      go_enter Try.func14, Try.ntmps14
      go_wp2_with fail
      refine (implPlanValid B E A l _ _ Hl.out hcap _ (by omega) Hs.out (Hr.out.below H.out.below)).mono ?_
      rw [hv]
      rintro e w1 ⟨rfl, hb⟩
      have H := Lib.hid (H.out.step hb)
      clear hb
      go_wp2_with fail
      refine (implBatchValid D m _ _ Hk.out hcapm _ (by omega) Hsm.out (Hm.out.below H.out.below)).mono ?_
      rw [hw]
      rintro e w2 ⟨rfl, hb⟩
      have H : Hid (Pool w w2 [boxP w.heap.size (.int .i64 B) (.int .i64 E) (.slice A n cap)]) := H.out.step hb
      clear hb
      obtain ⟨-, c0, c1, c2, -⟩ := H.out.box 0 rfl
      go_wp2_with fail
      refine (implDoPasses B E A l _ _ Hl.out D m _ _ Hk.out E _ (by omega) hkn (by omega) (by omega) (by omega) (Hr.out.below H.out.below) (Hm.out.below H.out.below)).mono ?_
      rintro e w3 ⟨A1, n1, c1', A2, n2, c2', rfl, hp⟩
      have H3 := Lib.hid (H.out.join hp)
      clear hp c0 c1 c2
      go_wp2
      go_ret3
      rw [Hd.out]
      exact LtRet2.of_pool H3.out

theorem BinsRd.drewN {w : World} {A : Option Addr} {hs : List Value} {ls : List (List Lt)} (h : BinsRd w A hs ls) (n : Nat) : BinsRd (w.drewN n) A hs ls := h.below (below_drewN (Below.refl _ _) n)

set_option maxHeartbeats 4000000 in
set_option maxRecDepth 100000 in
theorem specRunPlan (b p : Int) (A D : Option Addr) (l : List Str) (m : List Lt) (n cap k capm : Nat) (hl : n = l.length) (hk : k = m.length) (w : World) (hn : n ≤ 1048576) (hkn : k ≤ 1048576) (hs : ∀ x ∈ l, x.size ≤ 1048576) (hsm : ∀ x ∈ m, x.2.size ≤ 1048576) (h : Rd w 1 strEnc A l) (hm : Rd w 2 ltEnc D m) :
    Calls Try.prog 15 #[.agg #[.int .i64 b, .int .i64 p, .slice A n cap], .slice D k capm] w fun e w' => LtRet2 (runR b p l m) w e w' := by
  have Hl := Lib.hid hl
  have Hk := Lib.hid hk
  have Hr := Lib.hid h
  have Hm := Lib.hid hm
  have Hs := Lib.hid hs
  have Hsm := Lib.hid hsm
  clear h hs hl hk hm hsm
  have H : Hid (Pool w (w.alloc (Obj.cells #[.int .i64 b, .int .i64 p, .slice A n cap] 35)) [boxP w.heap.size (.int .i64 b) (.int .i64 p) (.slice A n cap)]) := (Pool.nil_ w).addBox rfl _ _ _ _
  cases hv : readyOk b p l m
  · have Hd : Hid (runR b p l m = noLtR) := by show runR _ _ _ _ = _; unfold runR; rw [show (planOk b p l && batchOk m) = readyOk b p l m from rfl, hv]; rfl
    go_enter Try.func15, Try.ntmps15
    go_wp2_with fail
    refine (specReady b p A D l m _ _ _ _ Hl.out Hk.out _ (by omega) (by omega) Hs.out Hsm.out (Hr.out.below H.out.below) (Hm.out.below H.out.below)).mono ?_
    rw [hv]
    rintro e w1 ⟨rfl, hb⟩
    have H : Hid (Pool w w1 []) := (H.out.step hb).none_
    have H : Hid (Pool w ((w1.alloc (Obj.cells #[] 41)).alloc (Obj.cells #[] 41)) [ownP 41 2 ltEnc (.slice (some ⟨w1.heap.size + 1, 0, none⟩) 0 0) [], ownP 41 2 ltEnc (.slice (some ⟨w1.heap.size, 0, none⟩) 0 0) []]) :=
      (H.out.addOwn ((Below.refl _ _).alloc (Nat.le_refl _) _) (Own.lit0 w1 41 2 ltEnc)).addOwn ((Below.refl _ _).alloc (Nat.le_refl _) _) (by have := Own.lit0 (w1.alloc (Obj.cells #[] 41)) 41 2 ltEnc; simpa using this)
    clear hb
    go_wp2
    go_ret3
    rw [Hd.out]
    have H := H.out.perm (List.Perm.swap _ _ _)
    exact ⟨_, 0, 0, _, 0, 0, rfl, H.res 0 rfl, H.res 1 rfl, fun g e e' => by injection e with e; injection e' with e'; simp at e e'; omega, H.below⟩
  · have hv2 : planOk b p l = true ∧ batchOk m = true := by unfold readyOk at hv; simpa using hv
    obtain ⟨hb1, hp1, -⟩ := planOk_parts hv2.1
    obtain ⟨B, rfl⟩ : ∃ B : Nat, b = B := ⟨b.toNat, by omega⟩
    obtain ⟨E, rfl⟩ : ∃ E : Nat, p = E := ⟨p.toNat, by omega⟩
    have Hd : Hid (runR B E l m = ⟨passN B l E m, outN B l E m, true⟩) := by show runR _ _ _ _ = _; unfold runR; rw [hv2.1, hv2.2]; rfl
    clear hv2
    go_enter Try.func15, Try.ntmps15
    go_wp2_with fail
    refine (specReady B E A D l m _ _ _ _ Hl.out Hk.out _ (by omega) (by omega) Hs.out Hsm.out (Hr.out.below H.out.below) (Hm.out.below H.out.below)).mono ?_
    rw [hv]
    rintro e w1 ⟨rfl, hb⟩
    have H : Hid (Pool w w1 [boxP w.heap.size (.int .i64 B) (.int .i64 E) (.slice A n cap)]) := H.out.step hb
    clear hb hv
    obtain ⟨-, c0, c1, c2, -⟩ := H.out.box 0 rfl
    go_wp2_with fail
    refine (specPlace B E A l _ _ Hl.out D m _ _ Hk.out 0 _ (by omega) (by omega) (by omega) (by omega) (by omega) (by omega) (Hr.out.below H.out.below) (Hm.out.below H.out.below)).mono ?_
    rintro e w2 ⟨g, hs, A2, n2, c2', rfl, hlen, hp⟩
    rw [show (fun c => binVal (B : Int) l c 0) = passF B l 0 from rfl] at hp
    have HR : Hid (BinsRd w2 (some ⟨g, 0, none⟩) hs (plBins B (passF B l 0) m)) := hp.binsRd (T := 41) (fun p hp => by simp [hp]) (by rw [plBins_len]; exact hlen)
    have H2 : Hid (Pool w w2 [ownP 41 2 ltEnc (.slice A2 n2 c2') (plRest (passF B l 0) m), boxP w.heap.size (.int .i64 B) (.int .i64 E) (.slice A n cap)]) :=
      (H.out.join hp).sub (List.Sublist.cons _ (List.Sublist.cons_cons _ (List.sublist_append_right _ _)))
    have Hlen := Lib.hid hlen
    clear H hp hlen c0 c1 c2
    have HP0 := Lib.hid hp1
    go_wp2_with fail
    go_loopw [9, 7] (fun i t wr => ∃ j : Nat, j < E ∧ i = .int .i64 ((j : Int) + 1) ∧ ∃ g hs, t = .slice (some ⟨g, 0, none⟩) B B ∧ Hid (hs.length = B) ∧ Hid (BinsRd wr (some ⟨g, 0, none⟩) hs (plBins B (passF B l j) (passN B l j m))) ∧ Hid (Pool w wr [ownP 41 2 ltEnc (.slice A2 n2 c2') (plRest (passF B l 0) m), boxP w.heap.size (.int .i64 B) (.int .i64 E) (.slice A n cap)])) (fun i _ _ => E - (intOf i).toNat)
    case atStart => exact ⟨0, by omega, rfl, g, hs, rfl, Hlen.out, HR.out, H2.out⟩
    case round =>
      clear H2 HR Hlen
      obtain ⟨j, hj, rfl, g, hs, rfl, Hlen, HR, H⟩ := hrel
      obtain ⟨-, c0, c1, c2, -⟩ := H.out.box 1 rfl
      have hpl := passN_len B l (j + 1) m
      have Hfl : Hid ((plBins B (passF B l j) (passN B l j m)).flatten = passN B l (j + 1) m) := rfl
      have Hfl2 : Hid ((plBins B (passF B l j) (passN B l j m)).flatten.length ≤ 1048576) := by show _ ≤ _; rw [Hfl.out]; have := Hk.out; omega
      clear hpl
      by_cases hlt : j + 1 < E
      · have HRd : ∀ q, Hid (BinsRd (wr.drewN q) (some ⟨g, 0, none⟩) hs (plBins B (passF B l j) (passN B l j m))) := fun q => HR.out.drewN q
        have HRd1 : Hid (BinsRd wr.drew (some ⟨g, 0, none⟩) hs (plBins B (passF B l j) (passN B l j m))) := HR.out.drewN 1
        have Hr2 := Lib.hid (Hr.out.below H.out.below)
        have hlt' : (j : Int) + 1 < (E : Int) := by omega
        go_wp2_with fail
        go_region_held3 (fun w' => w'.cell? ⟨w.heap.size, 0, none⟩ = some (.int .i64 B) ∧ w'.cell? ⟨w.heap.size, 1, none⟩ = some (.int .i64 E) ∧ w'.cell? ⟨w.heap.size, 2, none⟩ = some (.slice A n cap))
          (first
            | exact ⟨c0, c1, c2⟩
            | exact ⟨below_cell hb7 c0, below_cell hb7 c1, below_cell hb7 c2⟩
            | exact ⟨below_cell (below_step hb7 hb8) c0, below_cell (below_step hb7 hb8) c1, below_cell (below_step hb7 hb8) c2⟩)
          (first
            | (go_at_call 31; refine (specCollect (some ⟨g, 0, none⟩) hs (plBins B (passF B l j) (passN B l j m)) B B Hlen.out.symm _ (by omega) (by have := Hfl2.out; omega) (by first | exact HRd1.out | exact (HRd _).out)).mono ?_; rintro e w3 ⟨A4, n4, c4, rfl, ho4, hb7'⟩; have hb7 := below_undrew hb7')
            | (go_at_call 30; refine (specPlace B E A l _ _ Hl.out A4 (passN B l (j + 1) m) n4 c4 ho4.len ((j : Int) + 1) _ (by omega) (by have := ho4.len; have := Hfl2.out; omega) (by omega) (by omega) (by omega) (by omega) (by first | exact (Hr2.out.below hb7)) (by first | exact ho4.rd ltEnc_len)).mono ?_; rintro e w4 ⟨g5, hs5, A5, n5, c5, rfl, hlen5, hp5⟩; have hb8 := hp5.below))
        rw [show (fun c => binVal (B : Int) l c ((j : Int) + 1)) = passF B l (j + 1) from rfl] at hp5
        have HR5 : Hid (BinsRd w4 (some ⟨g5, 0, none⟩) hs5 (plBins B (passF B l (j + 1)) (passN B l (j + 1) m))) := hp5.binsRd (T := 41) (fun p hp => by simp [hp]) (by rw [plBins_len]; exact hlen5)
        have H5 : Hid (Pool w w4 [ownP 41 2 ltEnc (.slice A2 n2 c2') (plRest (passF B l 0) m), boxP w.heap.size (.int .i64 B) (.int .i64 E) (.slice A n cap)]) := (H.out.step hb7).step hb8
        have Hlen5 := Lib.hid hlen5
        clear hp5 hlen5 hb7 hb8 hb7' ho4 H HR
        go_wp2
        go_roundw
        case rel => exact ⟨j + 1, by omega, by go_num, g5, hs5, rfl, Hlen5.out, HR5.out, H5.out⟩
        case measure => simp [intOf]; omega
      · obtain rfl : E = j + 1 := by omega
        go_wp2_with fail
        refine (specCollect (some ⟨g, 0, none⟩) hs (plBins B (passF B l j) (passN B l j m)) B B Hlen.out.symm _ (by omega) (by have := Hfl2.out; omega) HR.out).mono ?_
        rintro e w3 ⟨A4, n4, c4, rfl, ho, hb⟩
        have H3 := Lib.hid (H.out.addOwn hb ho)
        clear ho hb
        go_wp2
        go_ret3
        rw [Hd.out, outN_eq (by omega)]
        exact LtRet2.of_pool H3.out
end Go.Proofs.Ytfilggdiljpakaa
