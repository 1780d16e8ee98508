/-
  One pass: the program's and the reference's.
-/
import Derived.Test.YtbfmohkjnjmmoaaPsR
namespace Go.Proofs.Ytbfmohkjnjmmoaa
open Go.RowKit

/-- Bins, letters and a Bool, as a result. -/
structure BinR where
  b : List (List Lt)
  k : List Lt
  ok : Bool
def noBinR : BinR := ⟨[], [], false⟩
def BinsRet (r : BinR) (w : World) (e : Ending) (w' : World) : Prop :=
  ∃ A n c hs A' n' c', e = .returned (.tuple #[.slice A n c, .slice A' n' c', .bool r.ok]) ∧ hs.length = r.b.length ∧
    Pool w w' (ownP 40 1 rawEnc (.slice A n c) hs :: ownP 42 2 ltEnc (.slice A' n' c') r.k :: innerP 42 hs r.b)
def binR (b p : Int) (l : List Str) (m : List Lt) (pass : Int) : BinR :=
  if passOk b p l pass && batchOk m then ⟨plBins b.toNat (fun c => binVal b l c pass) m, plRest (fun c => binVal b l c pass) m, true⟩ else noBinR
theorem binR_len (b p : Int) (l : List Str) (m : List Lt) (pass : Int) : (binR b p l m pass).b.length ≤ 1048576 ∧ (∀ y ∈ (binR b p l m pass).b, y.length ≤ m.length) ∧ (binR b p l m pass).k.length ≤ m.length ∧ (binR b p l m pass).b.flatten.length ≤ m.length := by
  unfold binR
  split
  · rename_i h
    simp only [Bool.and_eq_true] at h
    have hb := passOk_parts h.1
    refine ⟨by show (plBins _ _ _).length ≤ _; rw [plBins_len]; omega, fun y hy => ?_, plRest_len (fun c => binVal b l c pass) m, plFlat_len (f := fun c => binVal b l c pass) b.toNat m⟩
    obtain ⟨i, _, rfl⟩ := List.mem_map.1 hy
    exact plBin_len _ _ _
  · exact ⟨Nat.zero_le _, fun y hy => absurd hy (by simp [noBinR]), Nat.zero_le _, Nat.zero_le _⟩
theorem noBins (w : World) {w' : World} (hb : Below w.heap.size w w') : BinsRet noBinR w (.returned (.tuple #[.slice none 0 0, .slice none 0 0, .bool false])) w' :=
  ⟨none, 0, 0, [], none, 0, 0, rfl, rfl, ((Pool.of_below hb).add (Below.refl _ _) (ownP 42 2 ltEnc (.slice none 0 0) []) (Own.nil_ _ _ _ _ _) (fun k hk => by simp [ownP, Value.ownBlock] at hk)).add (Below.refl _ _) (ownP 40 1 rawEnc (.slice none 0 0) []) (Own.nil_ _ _ _ _ _) (fun k hk => by simp [ownP, Value.ownBlock] at hk)⟩

set_option maxHeartbeats 2000000 in
set_option maxRecDepth 100000 in
theorem implPlanPass (b p : Int) (A D : Option Addr) (l : List Str) (m : List Lt) (n cap k capm : Nat) (hl : n = l.length) (hk : k = m.length) (hcap : n ≤ cap) (hcapm : k ≤ capm) (pass : Int) (w : World) (hn : n ≤ 1048576) (hkn : k ≤ 1048576) (hs : ∀ x ∈ l, x.size ≤ 1048576) (hsm : ∀ x ∈ m, x.2.size ≤ 1048576) (h : Rd w 1 strEnc A l) (hm : Rd w 2 ltEnc D m) :
    Calls Try.prog 39 #[.agg #[.int .i64 b, .int .i64 p, .slice A n cap], .slice D k capm, .int .i64 pass] w fun e w' => BinsRet (binR b p l m pass) w e w' := by
  have Hl := Lib.hid hl
  have Hk := Lib.hid hk
  have Hr := Lib.hid h
  have Hm := Lib.hid hm
  have Hs := Lib.hid hs
  have Hsm := Lib.hid hsm
  clear h hs hl hk hm hsm
  have H : Hid (Pool w (w.alloc (Obj.cells #[.int .i64 b, .int .i64 p, .slice A n cap] 25)) [boxP w.heap.size (.int .i64 b) (.int .i64 p) (.slice A n cap)]) := (Pool.nil_ w).addBox rfl _ _ _ _
  cases hv : passOk b p l pass
  · have Hd : Hid (binR b p l m pass = noBinR) := by show binR _ _ _ _ _ = _; unfold binR; rw [hv]; rfl
    go_enter Try.func39, Try.ntmps39
    go_wp2_with fail
    refine (implPassValid b p A l _ _ Hl.out hcap pass _ (by omega) Hs.out (Hr.out.below H.out.below)).mono ?_
    rw [hv]
    rintro e w1 ⟨rfl, hb⟩
    have H := Lib.hid (H.out.step hb)
    clear hb
    go_wp2
    go_ret3
    rw [Hd.out]
    exact noBins w H.out.below
  · cases hw : batchOk m
    · have Hd : Hid (binR b p l m pass = noBinR) := by show binR _ _ _ _ _ = _; unfold binR; rw [hv, hw]; rfl
      go_enter Try.func39, Try.ntmps39
      go_wp2_with fail
      refine (implPassValid b p A l _ _ Hl.out hcap pass _ (by omega) Hs.out (Hr.out.below H.out.below)).mono ?_
      rw [hv]
      rintro e w1 ⟨rfl, hb⟩
      have H := Lib.hid (H.out.step hb)
      clear hb
      go_wp2_with fail
      refine (implBatchValid D m _ _ Hk.out hcapm _ (by omega) Hsm.out (Hm.out.below H.out.below)).mono ?_
      rw [hw]
      rintro e w2 ⟨rfl, hb⟩
      have H := Lib.hid (H.out.step hb)
      clear hb
      go_wp2
      go_ret3
      rw [Hd.out]
      exact noBins w H.out.below
    · obtain ⟨hb1, hp0, hp1, hp2⟩ := passOk_parts hv
      obtain ⟨B, rfl⟩ : ∃ B : Nat, b = B := ⟨b.toNat, by omega⟩
      have Hd : Hid (binR B p l m pass = ⟨plBins B (fun c => binVal B l c pass) m, plRest (fun c => binVal B l c pass) m, true⟩) := by show binR _ _ _ _ _ = _; unfold binR; rw [hv, hw]; rfl
      go_enter Try.func39, Try.ntmps39
      go_wp2_with fail
      refine (implPassValid B p A l _ _ Hl.out hcap pass _ (by omega) Hs.out (Hr.out.below H.out.below)).mono ?_
      rw [hv]
      rintro e w1 ⟨rfl, hb⟩
      have H := Lib.hid (H.out.step hb)
      clear hb
      go_wp2_with fail
      refine (implBatchValid D m _ _ Hk.out hcapm _ (by omega) Hsm.out (Hm.out.below H.out.below)).mono ?_
      rw [hw]
      rintro e w2 ⟨rfl, hb⟩
      have H : Hid (Pool w w2 [boxP w.heap.size (.int .i64 B) (.int .i64 p) (.slice A n cap)]) := H.out.step hb
      clear hb
      obtain ⟨-, c0, c1, c2, -⟩ := H.out.box 0 rfl
      go_wp2_with fail
      refine (implPlace B p A l _ _ Hl.out D m _ _ Hk.out pass _ (by omega) (by omega) (by omega) (by omega) (by omega) (by omega) (Hr.out.below H.out.below) (Hm.out.below H.out.below)).mono ?_
      rintro e w3 ⟨g, hs, A1, n1, c1', rfl, hlen, hp⟩
      have H3 := Lib.hid ((H.out.join hp).sub (List.sublist_append_left _ _))
      have Hlen := Lib.hid hlen
      clear hp c0 c1 c2 hlen
      go_wp2
      go_ret3
      rw [Hd.out]
      exact ⟨_, B, B, hs, A1, n1, c1', rfl, by rw [plBins_len]; exact Hlen.out, H3.out⟩

set_option maxHeartbeats 2000000 in
set_option maxRecDepth 100000 in
theorem specRawPass (b p : Int) (A D : Option Addr) (l : List Str) (m : List Lt) (n cap k capm : Nat) (hl : n = l.length) (hk : k = m.length) (pass : Int) (w : World) (hn : n ≤ 1048576) (hkn : k ≤ 1048576) (hs : ∀ x ∈ l, x.size ≤ 1048576) (hsm : ∀ x ∈ m, x.2.size ≤ 1048576) (h : Rd w 1 strEnc A l) (hm : Rd w 2 ltEnc D m) :
    Calls Try.prog 94 #[.agg #[.int .i64 b, .int .i64 p, .slice A n cap], .slice D k capm, .int .i64 pass] w fun e w' => BinsRet (binR b p l m pass) w e w' := by
  have Hl := Lib.hid hl
  have Hk := Lib.hid hk
  have Hr := Lib.hid h
  have Hm := Lib.hid hm
  have Hs := Lib.hid hs
  have Hsm := Lib.hid hsm
  clear h hs hl hk hm hsm
  have H : Hid (Pool w (w.alloc (Obj.cells #[.int .i64 b, .int .i64 p, .slice A n cap] 25)) [boxP w.heap.size (.int .i64 b) (.int .i64 p) (.slice A n cap)]) := (Pool.nil_ w).addBox rfl _ _ _ _
  have Hno : Hid (∀ w1 : World, Below w.heap.size w w1 → BinsRet noBinR w (.returned (.tuple #[.slice (some ⟨w1.heap.size, 0, none⟩) 0 0, .slice (some ⟨w1.heap.size + 1, 0, none⟩) 0 0, .bool false])) ((w1.alloc (Obj.cells #[] 40)).alloc (Obj.cells #[] 42))) := fun w1 hb =>
    ⟨_, 0, 0, [], _, 0, 0, rfl, rfl, (((Pool.of_below hb).addOwn ((Below.refl _ _).alloc (Nat.le_refl _) _) (Own.lit0 w1 40 1 rawEnc)).addOwn ((Below.refl _ _).alloc (Nat.le_refl _) _) (v := .slice (some ⟨w1.heap.size + 1, 0, none⟩) 0 0) (l := ([] : List Lt)) (by have := Own.lit0 (w1.alloc (Obj.cells #[] 40)) 42 2 ltEnc; simpa using this)).perm (List.Perm.swap _ _ _)⟩
  cases hv : readyOk b p l m
  · have Hd : Hid (binR b p l m pass = noBinR) := by
      show binR _ _ _ _ _ = _
      unfold binR
      have : (passOk b p l pass && batchOk m) = false := by
        unfold passOk
        unfold readyOk at hv
        cases h1 : planOk b p l
        · rfl
        · rw [h1] at hv; simp at hv; rw [hv]; simp
      rw [this]; rfl
    go_enter Try.func94, Try.ntmps94
    go_wp2_with fail
    refine (specReady b p A D l m _ _ _ _ Hl.out Hk.out _ (by omega) (by omega) Hs.out Hsm.out (Hr.out.below H.out.below) (Hm.out.below H.out.below)).mono ?_
    rw [hv]
    rintro e w1 ⟨rfl, hb⟩
    have H := Lib.hid (H.out.step hb)
    clear hb
    go_wp2
    go_ret3
    rw [Hd.out]
    exact Hno.out w1 H.out.below
  · have hv2 : planOk b p l = true ∧ batchOk m = true := by unfold readyOk at hv; simpa using hv
    obtain ⟨hb1, hp1, -⟩ := planOk_parts hv2.1
    have Hq : Hid (passOk b p l pass = decide (0 ≤ pass ∧ pass < p)) := by show _ = _; unfold passOk; rw [hv2.1]; rfl
    cases hd : decide (0 ≤ pass ∧ pass < p)
    all_goals
      have Hde := Lib.hid hd
      go_enter Try.func94, Try.ntmps94
      go_wp2_with fail
      refine (specReady b p A D l m _ _ _ _ Hl.out Hk.out _ (by omega) (by omega) Hs.out Hsm.out (Hr.out.below H.out.below) (Hm.out.below H.out.below)).mono ?_
      rw [hv]
      rintro e w1 ⟨rfl, hb⟩
      have H : Hid (Pool w w1 [boxP w.heap.size (.int .i64 b) (.int .i64 p) (.slice A n cap)]) := H.out.step hb
      clear hb
      obtain ⟨-, c0, c1, c2, -⟩ := H.out.box 0 rfl
    · have Hd : Hid (binR b p l m pass = noBinR) := by show binR _ _ _ _ _ = _; unfold binR; rw [Hq.out, hd]; rfl
      clear hd
      go_wp2_with (go_at_call 75; refine (passIn pass p _).mono ?_; rw [Hde.out]; rintro e w2 ⟨rfl, rfl⟩)
      go_ret3
      rw [Hd.out]
      exact Hno.out w1 H.out.below
    · have hd' : 0 ≤ pass ∧ pass < p := by simpa using hd
      obtain ⟨B, rfl⟩ : ∃ B : Nat, b = B := ⟨b.toNat, by omega⟩
      have Hd : Hid (binR B p l m pass = ⟨plBins B (fun c => binVal B l c pass) m, plRest (fun c => binVal B l c pass) m, true⟩) := by show binR _ _ _ _ _ = _; unfold binR; rw [Hq.out, hd, hv2.2]; rfl
      clear hd
      go_wp2_with (go_at_call 75; refine (passIn pass p _).mono ?_; rw [Hde.out]; rintro e w2 ⟨rfl, rfl⟩)
      refine (specPlace B p A l _ _ Hl.out D m _ _ Hk.out pass _ (by omega) (by omega) (by omega) (by omega) (by omega) (by omega) (Hr.out.below H.out.below) (Hm.out.below H.out.below)).mono ?_
      rintro e w3 ⟨g, hs, A1, n1, c1', rfl, hlen, hp⟩
      have H3 := Lib.hid ((H.out.join hp).sub (List.sublist_append_left _ _))
      have Hlen := Lib.hid hlen
      clear hp c0 c1 c2 hlen
      go_wp2
      go_ret3
      rw [Hd.out]
      exact ⟨_, B, B, hs, A1, n1, c1', rfl, by rw [plBins_len]; exact Hlen.out, H3.out⟩

theorem innerP_push {T : TypeId} : ∀ (hs : List Value) (ls : List (List Lt)) (v : Value) (l : List Lt), hs.length = ls.length → innerP T (hs ++ [v]) (ls ++ [l]) = innerP T hs ls ++ [ltsP T v l]
  | [], [], _, _, _ => rfl
  | [], _ :: _, _, _, h => by simp at h
  | _ :: _, [], _, _, h => by simp at h
  | h :: hs, x :: ls, v, l, hl => by
    have := innerP_push (T := T) hs ls v l (by simpa using hl)
    unfold innerP at this ⊢
    simp only [List.cons_append, List.zipWith_cons_cons]
    rw [this]
theorem perm_rot (a b : Piece) (xs : List Piece) : (a :: b :: xs).Perm (b :: (xs ++ [a])) := (List.Perm.swap b a xs).trans (((List.perm_append_singleton a xs).symm).cons b)
theorem raw_cells {w : World} {t : TypeId} (v : Value) {g : Nat} (hg : g = w.heap.size) : ∀ (j : Nat) (u : Value), (rawEnc v)[j]? = some u → (w.alloc (.cells #[v] t)).cell? (Addr.add ⟨g, 0, none⟩ j) = some u := by
  intro j u hu
  match j, hu with
  | 0, hu => simp [rawEnc] at hu; subst hu; exact World.cell?_alloc_at _ _ _ 0 hg
theorem rawEnc_one (v : Value) (h : v.oneCell' = true) : ∀ u ∈ rawEnc v, u.oneCell' = true := by
  intro u hu
  simp [rawEnc] at hu
  subst hu; exact h

set_option maxHeartbeats 4000000 in
set_option maxRecDepth 100000 in
theorem specOwnBins (A : Option Addr) (hs : List Value) (ls : List (List Lt)) (n cap : Nat) (hl : n = hs.length) (w : World) (hn : n ≤ 1048576) (hm : ∀ l ∈ ls, l.length ≤ 1048576) (h : BinsRd w A hs ls) :
    Calls Try.prog 95 #[.slice A n cap] w fun e w' => ∃ A' c' hs', e = .returned (.slice A' n c') ∧ hs'.length = ls.length ∧ Pool w w' (ownP 40 1 rawEnc (.slice A' n c') hs' :: innerP 42 hs' ls) := by
  have Hl := Lib.hid hl
  have Hh := Lib.hid h
  have Hm := Lib.hid hm
  clear h hl hm
  have H : Hid (Pool w (w.alloc (Obj.cells #[] 40)) (ownP 40 1 rawEnc (.slice (some ⟨w.heap.size, 0, none⟩) 0 0) [] :: innerP 42 [] [])) := (Pool.nil_ w).addOwn ((Below.refl _ _).alloc (Nat.le_refl _) _) (Own.lit0 w 40 1 rawEnc)
  go_enter Try.func95, Try.ntmps95
  go_wp2
  go_loopw [9, 3] (fun i t wr => ∃ j : Nat, j ≤ n ∧ i = .int .i64 j ∧ ∃ A1 c1 hs1, t = .slice A1 j c1 ∧ Hid (hs1.length = j) ∧ Hid (Pool w wr (ownP 40 1 rawEnc (.slice A1 j c1) hs1 :: innerP 42 hs1 (ls.take j)))) (fun i _ _ => n - (intOf i).toNat)
  case atStart => exact ⟨0, Nat.zero_le _, rfl, _, 0, [], rfl, rfl, by rw [List.take_zero]; exact H.out⟩
  case round =>
    clear H
    obtain ⟨j, hj, rfl, A1, c1, hs1, rfl, Hlen, H⟩ := hrel
    by_cases hlt : j < n
    · obtain ⟨l, hlj⟩ : ∃ l, ls[j]? = some l := ⟨_, List.getElem?_eq_getElem (by have := Hh.out.len; have := Hl.out; omega)⟩
      have hlm : l.length ≤ 1048576 := Hm.out l (List.mem_of_getElem? hlj)
      have hbr := Hh.out.below H.out.below
      obtain ⟨A2, c2, hv, h1, h2, h3⟩ := hbr.inn j l hlj
      obtain ⟨ad, rfl, hab, c0⟩ := hbr.out.one hv rfl
      have hTk : Hid (ls.take (j + 1) = ls.take j ++ [l]) := tk_succ hlj
      have hTl : Hid (hs1.length = (ls.take j).length) := by show _ = _; rw [Hlen.out, List.length_take]; have := Hh.out.len; have := Hl.out; omega
      have H1 : Hid (Pool w (wr.alloc (Obj.cells #[] 42)) (ownP 42 2 ltEnc (.slice (some ⟨wr.heap.size, 0, none⟩) 0 0) [] :: ownP 40 1 rawEnc (.slice A1 j c1) hs1 :: innerP 42 hs1 (ls.take j))) := H.out.addOwn ((Below.refl _ _).alloc (Nat.le_refl _) _) (Own.lit0 wr 42 2 ltEnc)
      have Hnil := Lib.hid h2
      have Hrd : Hid (Rd (wr.alloc (Obj.cells #[] 42)) 2 ltEnc A2 l) := h3.below ((Below.refl _ _).alloc (Nat.le_refl _) _)
      clear hv hlj h2 h3 hbr
      go_wp2_with (first
        | (at_builtin; refine wpList_appendAt (.tmp 14) (.tmp 15) 40 42 lt_info Try.underlying40 rfl (by decide) rfl rfl rfl rfl (H1.out.own 0 rfl).len (H1.out.own 0 rfl) rfl Hnil.out ltEnc_len Hrd.out (fun y _ => ltEnc_one y) (by omega) (by omega) (Nat.zero_le _) ?_; intro A3 c3 w3 ho3 hg3 hat3; rw [Nat.zero_add] at ho3 hat3; have H3 := Lib.hid (H1.out.append 0 rfl ho3 hg3 hat3); clear ho3 hg3 hat3)
        | (at_builtin; refine wpList_append1L (.tmp 13) (.tmp 17) 57 40 lts_info Try.underlying57 rfl (by decide) rfl rfl (.slice A3 l.length c3) (by first | rfl | (simp; done)) (H3.out.own 1 rfl).len ((H3.out.alloc _).own 1 rfl) (by first | rfl | (simp; done)) rawEnc_len (raw_cells _ rfl) (rawEnc_one _ rfl) (by omega) (by omega) (Nat.zero_le _) ?_; intro g4 c4 w4 ho4 hg4 hat4))
      have H4 := Lib.hid ((H3.out.alloc (Obj.cells #[.slice A3 l.length c3] 40)).append 1 rfl ho4 hg4 (fun q e => by injection e with e; subst e; exact hat4))
      go_roundw
      case rel => exact ⟨j + 1, by omega, by go_num, _, c4, hs1 ++ [.slice A3 l.length c3], rfl, by show _ = _; rw [List.length_append, Hlen.out]; rfl, by rw [hTk.out, innerP_push _ _ _ _ hTl.out]; exact H4.out.perm (perm_rot _ _ _)⟩
      case measure => simp [intOf]; omega
    · obtain rfl : j = n := by omega
      go_wp2
      go_ret
      refine ⟨A1, c1, hs1, rfl, ?_, ?_⟩
      · have := Hh.out.len; have := Hl.out; have := Hlen.out; omega
      · have := H.out
        rw [List.take_of_length_le (by have := Hh.out.len; have := Hl.out; omega)] at this
        exact this

set_option maxHeartbeats 4000000 in
set_option maxRecDepth 100000 in
theorem specPlanPass (b p : Int) (A D : Option Addr) (l : List Str) (m : List Lt) (n cap k capm : Nat) (hl : n = l.length) (hk : k = m.length) (pass : Int) (w : World) (hn : n ≤ 1048576) (hkn : k ≤ 1048576) (hs : ∀ x ∈ l, x.size ≤ 1048576) (hsm : ∀ x ∈ m, x.2.size ≤ 1048576) (h : Rd w 1 strEnc A l) (hm : Rd w 2 ltEnc D m) :
    Calls Try.prog 43 #[.agg #[.int .i64 b, .int .i64 p, .slice A n cap], .slice D k capm, .int .i64 pass] w fun e w' => BinsRet (binR b p l m pass) w e w' := by
  have Hl := Lib.hid hl
  have Hk := Lib.hid hk
  have Hr := Lib.hid h
  have Hm := Lib.hid hm
  have Hs := Lib.hid hs
  have Hsm := Lib.hid hsm
  clear h hs hl hk hm hsm
  have H : Hid (Pool w (w.alloc (Obj.cells #[.int .i64 b, .int .i64 p, .slice A n cap] 25)) [boxP w.heap.size (.int .i64 b) (.int .i64 p) (.slice A n cap)]) := (Pool.nil_ w).addBox rfl _ _ _ _
  have hRl := binR_len b p l m pass
  obtain ⟨R, hR⟩ : ∃ R, binR b p l m pass = R := ⟨_, rfl⟩
  rw [hR] at hRl
  have HR := Lib.hid hR
  have HRl := Lib.hid hRl
  clear hR hRl
  go_enter Try.func43, Try.ntmps43
  go_wp2_with fail
  refine (specRawPass b p A D l m _ _ _ _ Hl.out Hk.out pass _ hn hkn Hs.out Hsm.out (Hr.out.below H.out.below) (Hm.out.below H.out.below)).mono ?_
  rw [HR.out]
  rintro e w1 ⟨A1, n1, c1, hs, A2, n2, c2, rfl, hlen, hp⟩
  have hbr : BinsRd w1 A1 hs R.b := hp.binsRd (T := 42) (fun p hp => by simp [hp]) hlen
  have H1 := Lib.hid (H.out.join hp)
  have HB := Lib.hid hbr
  have hn1 := (hp.own 0 rfl).len
  have Hn1 := Lib.hid hn1
  have hn1b : n1 ≤ 1048576 := by have := HRl.out.1; omega
  clear hp hbr hlen hn1
  go_wp2_with fail
  refine (specOwnBins A1 hs R.b n1 c1 Hn1.out _ hn1b (fun l hl => by have := HRl.out.2.1 l hl; have := Hk.out; omega) HB.out).mono ?_
  rintro e w2 ⟨A3, c3, hs3, rfl, hlen3, hp3⟩
  have Hlen3 := Lib.hid hlen3
  have H2 : Hid (Pool w w2 (ownP 40 1 rawEnc (.slice A3 n1 c3) hs3 :: (innerP 42 hs3 R.b ++ [ownP 42 2 ltEnc (.slice A2 n2 c2) R.k]))) :=
    (H1.out.join hp3).sub (List.Sublist.cons_cons _ (List.Sublist.append (List.Sublist.refl _) (List.Sublist.cons _ (List.Sublist.cons_cons _ (List.nil_sublist _)))))
  clear H1 HB hp3 hlen3
  have H3 : Hid (Pool w (w2.alloc (Obj.cells #[] 42)) (ownP 42 2 ltEnc (.slice (some ⟨w2.heap.size, 0, none⟩) 0 0) [] :: ownP 40 1 rawEnc (.slice A3 n1 c3) hs3 :: (innerP 42 hs3 R.b ++ [ownP 42 2 ltEnc (.slice A2 n2 c2) R.k]))) := H2.out.addOwn ((Below.refl _ _).alloc (Nat.le_refl _) _) (Own.lit0 w2 42 2 ltEnc)
  have ho := (H3.out.all (ownP 42 2 ltEnc (.slice A2 n2 c2) R.k) (by simp)).1
  have ho : Own _ 0 42 2 ltEnc (.slice A2 n2 c2) R.k := ho
  obtain ⟨A2', c2', he, hc2, hnil, hrd⟩ := ho.formN ltEnc_len
  injection he with e1 e2 e3
  subst e1 e3 e2
  have Hnil := Lib.hid hnil
  have Hrd := Lib.hid hrd
  have hkl : R.k.length ≤ 1048576 := by have := HRl.out.2.2; have := Hk.out; omega
  clear ho hnil hrd hc2 H2
  go_wp2_with (at_builtin; refine wpList_appendAt (.tmp 22) (.tmp 23) 40 42 lt_info Try.underlying40 rfl (by decide) rfl rfl rfl rfl (H3.out.own 0 rfl).len (H3.out.own 0 rfl) rfl Hnil.out ltEnc_len Hrd.out (fun y _ => ltEnc_one y) (by omega) (by omega) (Nat.zero_le _) ?_; intro A5 c5 w5 ho5 hg5 hat5; rw [Nat.zero_add] at ho5 hat5)
  have H5 := Lib.hid (H3.out.append 0 rfl ho5 hg5 hat5)
  clear ho5 hg5 hat5
  go_ret3
  rw [HR.out]
  rw [List.nil_append] at H5
  exact ⟨A3, n1, c3, hs3, A5, R.k.length, c5, rfl, Hlen3.out, (H5.out.perm (List.Perm.swap _ _ _)).sub (List.Sublist.cons_cons _ (List.Sublist.cons_cons _ (List.sublist_append_left _ _)))⟩
end Go.Proofs.Ytbfmohkjnjmmoaa
