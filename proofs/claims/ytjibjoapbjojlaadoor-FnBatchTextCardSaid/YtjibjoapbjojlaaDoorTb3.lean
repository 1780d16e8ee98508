/-
  Letters out of their text: the program's and the reference's.
  Letters out of their text: the reference's.
-/
import Derived.Test.YtjibjoapbjojlaaDoorTb2
import Derived.Test.YtjibjoapbjojlaaDoorTf2
import Derived.Test.YtjibjoapbjojlaaDoorTx3
import Derived.Test.YtjibjoapbjojlaaDoorPlHb
import Derived.Test.YtjibjoapbjojlaaDoorPlT
namespace Go.Proofs.YtjibjoapbjojlaaDoor

section
open Go.RowKit Go.Shelf
attribute [local go_sem] Oper.semAt_some

def LtPR (r : List Lt × Bool) (w : World) (e : Ending) (w' : World) : Prop :=
  ∃ A n c, e = .returned (.tuple #[.slice A n c, .bool r.2]) ∧ Own w' w.heap.size 55 2 ltEnc (.slice A n c) r.1 ∧ Below w.heap.size w w'
theorem ltOfS_size {p : Str} (h : p.size ≤ 1048576) : (ltOfS p).2.size ≤ 1048576 := by
  unfold ltOfS aftB
  show (ByteArray.extract _ _ _).size ≤ _
  rw [ByteArray.size_extract]
  omega

set_option maxHeartbeats 1000000 in
set_option maxRecDepth 100000 in
theorem cutLiteNo (s : Str) (c : UInt8) (h : findB c s < 0) (w : World) :
    Calls Tryd.prog 67 #[.string s, .string (⟨#[c]⟩ : Str)] w fun e w' => e = .returned (.tuple #[.string s, .string ByteArray.empty, .bool false]) ∧ w' = w := by
  have K : Hid (∀ w, Calls Tryd.prog 94 #[.string s, .string (⟨#[c]⟩ : Str)] w fun e w' => e = .returned (.int .i64 (findB c s)) ∧ w' = w) := fun w => Tryd.stringslite_Index_one s c w
  have hn := Lib.hid (findB_neg h)
  rw [hn.out] at K
  clear h
  go_enter Tryd.func67, Tryd.ntmps67
  go_wp2_with (go_at_call 94; refine (K.out _).mono ?_; rintro e w' ⟨rfl, rfl⟩)
  go_ret3
  exact ⟨rfl, rfl⟩

set_option maxHeartbeats 1000000 in
set_option maxRecDepth 100000 in
theorem implCutNo (s : Str) (c : UInt8) (h : findB c s < 0) (w : World) :
    Calls Tryd.prog 38 #[.string s, .string (⟨#[c]⟩ : Str)] w fun e w' => e = .returned (.tuple #[.string s, .string ByteArray.empty, .bool false]) ∧ w' = w := by
  have K := Lib.hid fun w => cutLiteNo s c h w
  clear h
  go_enter Tryd.func38, Tryd.ntmps38
  go_wp2_with fail
  refine (K.out _).mono ?_
  rintro e w1 ⟨rfl, rfl⟩
  go_wp2
  go_ret3
  exact ⟨rfl, rfl⟩

set_option maxHeartbeats 4000000 in
set_option maxRecDepth 100000 in
theorem implParseBatch (s : Str) (hs : s.size ≤ 1048576) (w : World) (ht : TabUp w) :
    Calls Tryd.prog 8 #[.string s] w fun e w' => LtPR (parseLt s) w e w' := by
  refine (callsIn_wide (n := 5)).1 ?_
  have hro : Fence.wide.round = none := rfl
  have HT := Lib.hid ht
  clear ht
  have H2 : Hid (Pool w ((w.alloc (.cells #[.slice none 0 0] 22)).alloc (.cells #[.bool false] 4)) [oneP (w.heap.size + 1) (.bool false), oneP w.heap.size (.slice none 0 0)]) := ((Pool.nil_ w).addOne rfl (.slice none 0 0) 22).addOne (by simp) (.bool false) 4
  refine callsIn_of_wp_marks Tryd.func8 rfl trivial ?_ hro
  simp only [Tryd.ntmps8, List.size_toArray, List.length_cons, List.length_nil, Nat.reduceAdd, Nat.reduceSub, Array.replicate_succ, Array.replicate_zero, List.push_toArray, List.append_toArray, List.nil_append, List.cons_append]
  obtain ⟨r1, f1⟩ := H2.out.one 0 rfl
  obtain ⟨r0, f0⟩ := H2.out.one 1 rfl
  by_cases hd : s = cDash
  · have hq : (ByteArray.toList s == [45]) = true := by
      have := str_t (b := (⟨#[45]⟩ : Str)) hd
      simpa using this
    have Hr : Hid (parseLt s = ([], true)) := by show _ = _; rw [hd]; exact parseLt_dash
    have H3 : Hid (Pool w ((w.alloc (.cells #[.slice none 0 0] 22)).alloc (.cells #[.bool true] 4)) [oneP (w.heap.size + 1) (.bool true), oneP w.heap.size (.slice none 0 0)]) := ((Pool.nil_ w).addOne rfl (.slice none 0 0) 22).addOne (by simp) (.bool true) 4
    obtain ⟨s1, -⟩ := H3.out.one 0 rfl
    obtain ⟨s0, -⟩ := H3.out.one 1 rfl
    clear hd
    gi_wp2
    refine ⟨.tuple #[.slice none 0 0, .bool true], by simp [results, Tryd.results8, go_sem, s0, s1], ?_⟩
    show LtPR _ _ _ _
    rw [Hr.out]
    exact ⟨none, 0, 0, rfl, Own.nil_ _ _ _ _ _, H3.out.below⟩
  · have hq : (ByteArray.toList s == [45]) = false := by
      have := str_f (b := (⟨#[45]⟩ : Str)) hd
      simpa using this
    have Hd := Lib.hid hd
    clear hd
    have H4 : Hid (Pool w (((w.alloc (.cells #[.slice none 0 0] 22)).alloc (.cells #[.bool false] 4)).alloc (.cells #[.slice none 0 0] 22)) [oneP (w.heap.size + 1 + 1) (.slice none 0 0), oneP (w.heap.size + 1) (.bool false), oneP w.heap.size (.slice none 0 0)]) := H2.out.addOne (by simp) (.slice none 0 0) 22
    have KS : Hid (∀ W, CallsIn Fence.wide 4 Tryd.prog 37 #[.string s, .string (⟨#[32]⟩ : Str)] W fun e w' => e = .returned (.func (.func 91) #[] #[.pointer (some ⟨W.heap.size + 1, 0, none⟩), .pointer (some ⟨W.heap.size, 0, none⟩), .pointer (some ⟨W.heap.size + 2, 0, none⟩)]) ∧ w' = (((W.alloc (.cells #[.string s] 9)).alloc (.cells #[.string (⟨#[32]⟩ : Str)] 9)).alloc (.cells #[.int .i64 0] 3))) := fun W => callsIn_wide.2 (splitSeqC s W)
    gi_wp2_with (refine ⟨trivial, ?_⟩; gi_at_call 37; refine (KS.out _).mono ?_; rintro e w' ⟨rfl, hw'⟩)
    rw [← hw']
    have H5 : Hid (Pool w w' (spP (w.heap.size + 1 + 1 + 1) s :: [ownP 55 2 ltEnc (.slice none 0 0) [], oneP (w.heap.size + 1 + 1) (.slice none 0 0), oneP (w.heap.size + 1) (.bool false), oneP w.heap.size (.slice none 0 0)])) := by
      show Pool _ _ _
      rw [hw']
      exact ((H4.out.addSp s _ _ (by simp)).add (Below.refl _ _) (ownP 55 2 ltEnc (.slice none 0 0) []) (Own.nil_ _ _ _ _ _) (fun k hk => by simp [ownP, Value.ownBlock] at hk)).perm (List.Perm.swap _ _ _)
    clear hw' H4 H2 r0 r1 f0 f1 KS hq
    have Hz : Hid (∀ x ∈ parts s, x.size ≤ 1048576) := fun x hx => by have := parts_size hx; omega
    refine wpIn_rangeIter (t := 15) hro (by decide) (gf := 91) (lb := #[.pointer (some ⟨w.heap.size + 1 + 1 + 1 + 1, 0, none⟩), .pointer (some ⟨w.heap.size + 1 + 1 + 1, 0, none⟩), .pointer (some ⟨w.heap.size + 1 + 1 + 1 + 2, 0, none⟩)]) rfl trivial (enters_of Tryd.func91 (by kernel_rfl) rfl) (splitIter 4 (by decide) s hs w (w.heap.size + 1 + 1 + 1))
      (fun k qs => k ≤ 60 ∧ (∀ p ∈ (parts s).take k, 0 ≤ findB 58 p) ∧ ∃ A n c, qs = [ownP 55 2 ltEnc (.slice A n c) (((parts s).take k).map ltOfS), oneP (w.heap.size + 1 + 1) (.slice A n c), oneP (w.heap.size + 1) (.bool false), oneP w.heap.size (.slice none 0 0)])
      (fun c qs => c = .ret ∧ parseLt s = ([], false) ∧ ∃ A n c L, qs = [ownP 55 2 ltEnc (.slice A n c) L, oneP (w.heap.size + 1 + 1) (.slice A n c), oneP (w.heap.size + 1) (.bool false), oneP w.heap.size (.slice none 0 0)])
      ⟨Nat.zero_le _, fun p hp => by simp at hp, none, 0, 0, rfl⟩ H5.out
      (fun x => { tmps := #[.string s, undef, .pointer (some ⟨w.heap.size, 0, none⟩), .pointer (some ⟨w.heap.size + 1, 0, none⟩), .pointer (some ⟨w.heap.size + 1 + 1, 0, none⟩), .string x, undef, undef, undef, undef, undef, .string s, .bool false, .string s, .func (.func 91) #[] #[.pointer (some ⟨w.heap.size + 1 + 1 + 1 + 1, 0, none⟩), .pointer (some ⟨w.heap.size + 1 + 1 + 1, 0, none⟩), .pointer (some ⟨w.heap.size + 1 + 1 + 1 + 2, 0, none⟩)], .string x, undef, undef, undef, undef, undef, undef, undef, undef, undef, undef, undef, undef, undef, undef, undef, undef, undef, undef, undef, undef, undef, undef, undef, undef, undef, undef, undef, undef, undef, undef, undef, undef, undef], defers := [] }) ?assign ?body ?done ?stop
    case assign =>
      intro l x W K hK
      gi_wp2
      exact hK
    case body =>
      rintro l k x W qs cs hx ⟨hk, hfound, A, n, c, rfl⟩ HP
      have H : Hid (Pool w W (ownP 55 2 ltEnc (.slice A n c) (((parts s).take k).map ltOfS) :: oneP (w.heap.size + 1 + 1) (.slice A n c) :: oneP (w.heap.size + 1) (.bool false) :: oneP w.heap.size (.slice none 0 0) :: cs)) := HP
      have hxz := Hz.out x (List.mem_of_getElem? hx)
      have hlen : n = k := by
        have h1 := (H.out.own 0 rfl).len
        have h2 := (List.getElem?_eq_some_iff.1 hx).1
        rw [List.length_map, List.length_take] at h1
        omega
      have Hx := Lib.hid hx
      have Hfound := Lib.hid hfound
      subst hlen
      obtain ⟨b3, e3⟩ := H.out.one 2 rfl
      obtain ⟨b2, e2⟩ := H.out.one 3 rfl
      clear hx hfound HP
      by_cases hf : findB 58 x < 0
      · have Hr : Hid (parseLt s = ([], false)) := parseLt_no Hd.out (List.mem_of_getElem? Hx.out) hf
        have KC : Hid (∀ W, CallsIn (Fence.wide.inRound l) (5 - 1 - 1 - 1) Tryd.prog 38 #[.string x, .string (⟨#[58]⟩ : Str)] W fun e w' => e = .returned (.tuple #[.string x, .string ByteArray.empty, .bool false]) ∧ w' = W) := fun W => CallsIn.inRound l (callsIn_wide.2 (implCutNo x 58 hf W))
        obtain ⟨N, hN⟩ : ∃ N, numVal x.data.toList = N := ⟨_, rfl⟩
        obtain ⟨ok, hok⟩ : ∃ ok, numOk x.data.toList = ok := ⟨_, rfl⟩
        have KN : Hid (∀ W, CallsIn (Fence.wide.inRound l) (5 - 1 - 1 - 1) Tryd.prog 39 #[.string x] W fun e w' => e = .returned (.tuple #[.int .i64 N, .bool ok]) ∧ Below W.heap.size W w') := fun W => by
          rw [← hN, ← hok]; exact CallsIn.inRound l (callsIn_wide.2 (implNumber x hxz W))
        clear hf hN hok b2 b3 e2 e3
        gi_wp2_with (first
          | (refine ⟨trivial, ?_⟩; gi_at_call 38; refine (KC.out _).mono ?_; rintro e w' ⟨rfl, rfl⟩)
          | (refine ⟨trivial, ?_⟩; gi_at_call 39; refine (KN.out _).mono ?_; rintro e w' ⟨rfl, hb⟩; have H2 := Lib.hid (H.out.step hb); clear hb; obtain ⟨b3, e3⟩ := H2.out.one 2 rfl; obtain ⟨b2, e2⟩ := H2.out.one 3 rfl))
        exact ⟨_, ⟨rfl, Hr.out, A, n, c, _, rfl⟩, ((H2.out.setOne 3 rfl (.slice none 0 0)).setOne 2 rfl (.bool false))⟩
      · have hf0 : 0 ≤ findB 58 x := by omega
        have hdec : decide (0 ≤ findB 58 x) = true := by simpa using hf0
        have Hf := Lib.hid hf0
        obtain ⟨Y, hY⟩ : ∃ Y, befB 58 x = Y := ⟨_, rfl⟩
        obtain ⟨Z, hZ⟩ : ∃ Z, aftB 58 x = Z := ⟨_, rfl⟩
        have hYz : Y.size ≤ 1048576 := by rw [← hY]; unfold befB; rw [ByteArray.size_extract]; omega
        have KD : Hid (∀ W, CallsIn (Fence.wide.inRound l) (5 - 1 - 1 - 1) Tryd.prog 38 #[.string x, .string (⟨#[58]⟩ : Str)] W fun e w' => e = .returned (.tuple #[.string Y, .string Z, .bool true]) ∧ ∃ n, w' = W.drewN n) := fun W => (show CallsIn (Fence.wide.inRound l) (5 - 1 - 1 - 1) Tryd.prog 38 #[.string x, .string (⟨#[58]⟩ : Str)] W _ from CallsIn.inRound l (callsIn_wide.2 (implCut x 58 hxz W))).mono fun _ _ ⟨y, z, he, hyz, hw⟩ => by
          obtain ⟨e1, e2⟩ := hyz Hf.out
          subst e1 e2
          rw [hY, hZ, hdec] at he
          exact ⟨he, hw⟩
        obtain ⟨N, hN⟩ : ∃ N, numVal Y.data.toList = N := ⟨_, rfl⟩
        obtain ⟨ok, hok⟩ : ∃ ok, numOk Y.data.toList = ok := ⟨_, rfl⟩
        have KN : Hid (∀ W, CallsIn (Fence.wide.inRound l) (5 - 1 - 1 - 1) Tryd.prog 39 #[.string Y] W fun e w' => e = .returned (.tuple #[.int .i64 N, .bool ok]) ∧ Below W.heap.size W w') := fun W => by
          rw [← hN, ← hok]; exact CallsIn.inRound l (callsIn_wide.2 (implNumber Y hYz W))
        cases ok
        · have Hr : Hid (parseLt s = ([], false)) := parseLt_num Hd.out (List.mem_of_getElem? Hx.out) (by rw [hY]; exact hok)
          clear hf hf0 hdec hN hok hY hZ b2 b3 e2 e3
          gi_wp2_with (first
            | (refine ⟨trivial, ?_⟩; gi_at_call 38; refine (KD.out _).mono ?_; rintro e w' ⟨rfl, q, rfl⟩; have H1 := Lib.hid (H.out.drew q))
            | (refine ⟨trivial, ?_⟩; gi_at_call 39; refine (KN.out _).mono ?_; rintro e w' ⟨rfl, hb⟩; have H2 := Lib.hid (H1.out.step hb); clear hb; obtain ⟨b3, e3⟩ := H2.out.one 2 rfl; obtain ⟨b2, e2⟩ := H2.out.one 3 rfl))
          exact ⟨_, ⟨rfl, Hr.out, A, n, c, _, rfl⟩, ((H2.out.setOne 3 rfl (.slice none 0 0)).setOne 2 rfl (.bool false))⟩
        · by_cases h60 : n = 60
          · have Hr : Hid (parseLt s = ([], false)) := parseLt_long Hd.out (by have := (List.getElem?_eq_some_iff.1 Hx.out).1; omega)
            have h60I : ((n : Int) == 60) = true := by rw [h60]; rfl
            clear hf hf0 hdec h60 hN hok hY hZ b2 b3 e2 e3
            gi_wp2_with (first
              | (refine ⟨trivial, ?_⟩; gi_at_call 38; refine (KD.out _).mono ?_; rintro e w' ⟨rfl, q, rfl⟩; have H1 := Lib.hid (H.out.drew q))
              | (refine ⟨trivial, ?_⟩; gi_at_call 39; refine (KN.out _).mono ?_; rintro e w' ⟨rfl, hb⟩; have H2 := Lib.hid (H1.out.step hb); clear hb; obtain ⟨b3, e3⟩ := H2.out.one 2 rfl; obtain ⟨b2, e2⟩ := H2.out.one 3 rfl; obtain ⟨b4, e4⟩ := H2.out.one 1 rfl))
            exact ⟨_, ⟨rfl, Hr.out, A, n, c, _, rfl⟩, ((H2.out.setOne 3 rfl (.slice none 0 0)).setOne 2 rfl (.bool false))⟩
          · have h60I : ((n : Int) == 60) = false := beq_eq_false_iff_ne.2 (by omega)
            have hk1 : n + 1 ≤ 60 := by omega
            have Hlen := Lib.hid (H.out.own 0 rfl).len
            have Ht : Hid (((parts s).take (n + 1)).map ltOfS = ((parts s).take n).map ltOfS ++ [(N, Z)]) := by
              show _ = _
              rw [List.take_add_one, Hx.out, List.map_append, ← hN, ← hY, ← hZ]; rfl
            have Hfd : Hid (∀ p ∈ (parts s).take (n + 1), 0 ≤ findB 58 p) := fun p hp => by
              rw [List.take_add_one, Hx.out] at hp
              rcases List.mem_append.1 hp with hp | hp
              · exact Hfound.out p hp
              · have hp := List.mem_singleton.1 (show p ∈ [x] from hp)
                subst hp; exact Hf.out
            clear hf hf0 hdec h60 hN hok hY hZ b2 b3 e2 e3
            gi_wp2_with (first
              | (refine ⟨trivial, ?_⟩; gi_at_call 38; refine (KD.out _).mono ?_; rintro e w' ⟨rfl, q, rfl⟩; have H1 := Lib.hid (H.out.drew q))
              | (refine ⟨trivial, ?_⟩; gi_at_call 39; refine (KN.out _).mono ?_; rintro e w' ⟨rfl, hb⟩; have H2 := Lib.hid (H1.out.step hb); clear hb; obtain ⟨b4, e4⟩ := H2.out.one 1 rfl)
              | (gi_at_builtin; refine wpListIn_append1L (.tmp 38) (.tmp 42) 22 55 lt_info Tryd.underlying22 rfl (by decide) rfl rfl (N, Z) rfl Hlen.out ((H2.out.alloc (Obj.cells #[.int .i64 N, .string Z] 55)).own 0 rfl) rfl ltEnc_len (ltEnc_cells (N, Z) rfl) (ltEnc_one _) (by omega) (by omega) (Nat.zero_le _) ?_; intro g3 c3 w5 ho3 hg3 hat3; have H5 := Lib.hid ((H2.out.alloc (Obj.cells #[.int .i64 N, .string Z] 55)).append 0 rfl ho3 hg3 (fun q e => by injection e with e; subst e; exact hat3)); clear ho3 hg3 hat3; obtain ⟨b5, e5⟩ := H5.out.one 1 rfl))
            refine ⟨[ownP 55 2 ltEnc (.slice (some ⟨g3, 0, none⟩) (n + 1) c3) (((parts s).take (n + 1)).map ltOfS), oneP (w.heap.size + 1 + 1) (.slice (some ⟨g3, 0, none⟩) (n + 1) c3), oneP (w.heap.size + 1) (.bool false), oneP w.heap.size (.slice none 0 0)], ⟨hk1, Hfd.out, _, _, _, rfl⟩, ?_⟩
            rw [Ht.out]
            exact H5.out.setOne 1 rfl (.slice (some ⟨g3, 0, none⟩) (n + 1) c3)
    case done =>
      rintro D k W qs ⟨hk, hfound, A, n, c, rfl⟩ HP
      rw [List.take_length] at hfound HP
      have HP := Lib.hid HP
      have hall := parseLt_all Hd.out hk hfound
      obtain ⟨L, hL⟩ : ∃ L, (parts s).map ltOfS = L := ⟨_, rfl⟩
      have HzL : Hid (∀ x ∈ L, x.2.size ≤ 1048576) := fun x hx => by
        rw [← hL] at hx
        obtain ⟨p, hp, rfl⟩ := List.mem_map.1 hx
        exact ltOfS_size (Hz.out p hp)
      have hLl : L.length ≤ 60 := by rw [← hL, List.length_map]; exact hk
      rw [hL] at HP hall
      have hlen := (HP.out.own 2 rfl).len
      have hcap := (HP.out.own 2 rfl).cap_le
      have Hlen := Lib.hid hlen
      have Hcap := Lib.hid hcap
      have hn60 : n ≤ 60 := by omega
      obtain ⟨b4, e4⟩ := HP.out.one 3 rfl
      obtain ⟨G, hG⟩ : ∃ G, fmtB L = G := ⟨_, rfl⟩
      have KV : Hid (CallsIn Fence.wide 4 Tryd.prog 13 #[.slice A n c] W fun e w' => e = .returned (.string G) ∧ Below W.heap.size W w') := by
        rw [← hG]
        exact callsIn_wide.2 (implFormatBatch A L n c Hlen.out Hcap.out W (by omega) HzL.out ((HP.out.own 2 rfl).rd ltEnc_len) (HT.out.below HP.out.below))
      rw [hG] at hall
      have Hall := Lib.hid hall
      clear hfound hall hL hlen hcap hk hG
      by_cases he : G = s
      · have Hr : Hid (parseLt s = (L, true)) := by show _ = _; rw [Hall.out, if_pos he]
        have hq2 := str_t he
        clear he
        gi_wp2_with (refine ⟨trivial, ?_⟩; gi_at_call 13; refine KV.out.mono ?_; rintro e w' ⟨rfl, hb⟩; have H6 := Lib.hid (HP.out.step hb); clear hb; obtain ⟨b2, e2⟩ := H6.out.one 5 rfl; obtain ⟨b3, e3⟩ := H6.out.one 4 rfl; obtain ⟨b5, e5⟩ := H6.out.one 3 rfl)
        have H7 := Lib.hid ((H6.out.setOne 5 rfl (.slice A n c)).setOne 4 rfl (.bool true))
        have H8 := Lib.hid (H7.out.put 1 rfl (.deferred none))
        obtain ⟨s1, -⟩ := H8.out.one 4 rfl
        obtain ⟨s0, -⟩ := H8.out.one 5 rfl
        refine ⟨by simp, .inl ⟨_, _, rfl, run_takeDeferred (H7.out.obj 1 rfl), ?_⟩⟩
        refine ⟨.tuple #[.slice A n c, .bool true], by simp [results, Tryd.results8, go_sem, s0, s1], ?_⟩
        show LtPR _ _ _ _
        rw [Hr.out]
        exact ⟨A, n, c, rfl, H8.out.res 2 rfl, H8.out.below⟩
      · have Hr : Hid (parseLt s = ([], false)) := by show _ = _; rw [Hall.out, if_neg he]
        have hq2 := str_f he
        clear he
        gi_wp2_with (refine ⟨trivial, ?_⟩; gi_at_call 13; refine KV.out.mono ?_; rintro e w' ⟨rfl, hb⟩; have H6 := Lib.hid (HP.out.step hb); clear hb; obtain ⟨b2, e2⟩ := H6.out.one 5 rfl; obtain ⟨b3, e3⟩ := H6.out.one 4 rfl; obtain ⟨b5, e5⟩ := H6.out.one 3 rfl)
        have H7 := Lib.hid ((H6.out.setOne 5 rfl (.slice none 0 0)).setOne 4 rfl (.bool false))
        have H8 := Lib.hid (H7.out.put 1 rfl (.deferred none))
        obtain ⟨s1, -⟩ := H8.out.one 4 rfl
        obtain ⟨s0, -⟩ := H8.out.one 5 rfl
        refine ⟨by simp, .inl ⟨_, _, rfl, run_takeDeferred (H7.out.obj 1 rfl), ?_⟩⟩
        refine ⟨.tuple #[.slice none 0 0, .bool false], by simp [results, Tryd.results8, go_sem, s0, s1], ?_⟩
        show LtPR _ _ _ _
        rw [Hr.out]
        exact ⟨none, 0, 0, rfl, Own.nil_ _ _ _ _ _, H8.out.below⟩
    case stop =>
      rintro D k c W qs ⟨rfl, hr, A, n, c', L, rfl⟩ HP
      have H7 := Lib.hid HP
      have Hr := Lib.hid hr
      clear HP hr
      gi_wp2
      have H8 := Lib.hid (H7.out.put 1 rfl (.deferred none))
      obtain ⟨s1, -⟩ := H8.out.one 4 rfl
      obtain ⟨s0, -⟩ := H8.out.one 5 rfl
      refine ⟨by simp, .inl ⟨_, _, rfl, run_takeDeferred (H7.out.obj 1 rfl), ?_⟩⟩
      refine ⟨.tuple #[.slice none 0 0, .bool false], by simp [results, Tryd.results8, go_sem, s0, s1], ?_⟩
      show LtPR _ _ _ _
      rw [Hr.out]
      exact ⟨none, 0, 0, rfl, Own.nil_ _ _ _ _ _, H8.out.below⟩

end

section
open Go.RowKit

set_option maxHeartbeats 4000000 in
set_option maxRecDepth 100000 in
theorem specParseBatch (s : Str) (hs : s.size ≤ 1048576) (w : World) :
    Calls Tryd.prog 7 #[.string s] w fun e w' => LtPR (parseLt s) w e w' := by
  have H0 : Hid (Pool w (w.alloc (Obj.cells #[] 55)) [ownP 55 2 ltEnc (.slice (some ⟨w.heap.size, 0, none⟩) 0 0) []]) := (Pool.nil_ w).addOwn ((Below.refl _ _).alloc (Nat.le_refl _) _) (Own.lit0 w 55 2 ltEnc)
  by_cases hd : s = cDash
  · have hq : (ByteArray.toList s == [45]) = true := by
      have := str_t (b := (⟨#[45]⟩ : Str)) hd
      simpa using this
    have Hr : Hid (parseLt s = ([], true)) := by show _ = _; rw [hd]; exact parseLt_dash
    clear hd
    go_enter Tryd.func7, Tryd.ntmps7
    go_wp2
    go_ret2
    show LtPR _ _ _ _
    rw [Hr.out]
    exact ⟨_, 0, 0, rfl, H0.out.res 0 rfl, H0.out.below⟩
  have hq : (ByteArray.toList s == [45]) = false := by
    have := str_f (b := (⟨#[45]⟩ : Str)) hd
    simpa using this
  have Hd := Lib.hid hd
  have Hz : Hid (∀ x ∈ parts s, x.size ≤ 1048576) := fun x hx => by have := parts_size hx; omega
  clear hd
  go_enter Tryd.func7, Tryd.ntmps7
  go_wp2_with fail
  refine (specCut s 32 rfl hs _).mono ?_
  rintro e w1 ⟨A, n, c, rfl, ho, hb⟩
  have H1 := Lib.hid ((H0.out.addOwn hb ho).perm (List.Perm.swap _ _ _))
  have Hln := Lib.hid (H1.out.own 1 rfl).len
  have hnb : n ≤ 1048577 := by have := Hln.out; have := parts_len s; omega
  clear ho hb H0
  go_wp2_with fail
  go_loopw [4, 6] (fun o i wr => ∃ (k : Nat) (A2 : Option Addr) (c2 : Nat), k ≤ n ∧ k ≤ 61 ∧ i = .int .i64 k ∧ o = .slice A2 k c2 ∧ Hid (∀ p ∈ (parts s).take k, 0 ≤ findB 58 p) ∧ Hid (Pool w wr [ownP 55 2 ltEnc (.slice A2 k c2) (((parts s).take k).map ltOfS), ownP 9 1 strEnc (.slice A n c) (parts s)])) (fun _ i _ => n - (intOf i).toNat)
  case atStart => exact ⟨0, _, 0, Nat.zero_le _, Nat.zero_le _, rfl, rfl, (fun p hp => by simp at hp), H1.out⟩
  case round =>
    clear H1
    obtain ⟨k, A2, c2, hk, hk61, rfl, rfl, HF, H⟩ := hrel
    by_cases hlt : k < n ∧ k ≤ 60
    · obtain ⟨hlt, h60⟩ := hlt
      obtain ⟨x, hx⟩ : ∃ x, (parts s)[k]? = some x := ⟨_, List.getElem?_eq_getElem (by have := Hln.out; omega)⟩
      have hxz := Hz.out x (List.mem_of_getElem? hx)
      obtain ⟨ad, rfl, hab, c0⟩ := ((H.out.own 1 rfl).rd strEnc_len).one hx rfl
      have Hx := Lib.hid hx
      have hltI : (k : Int) < (n : Int) := by omega
      have h60I : (k : Int) ≤ 60 := by omega
      have KF : Hid (∀ w, Calls Tryd.prog 35 #[.string x, .int .u8 58] w fun e w' => e = .returned (.int .i64 (findB 58 x)) ∧ w = w') := fun w => specFind x 58 58 rfl hxz w
      clear hx
      by_cases hf : findB 58 x < 0
      · have Hr : Hid (parseLt s = ([], false)) := parseLt_no Hd.out (List.mem_of_getElem? Hx.out) hf
        have hfn := findB_neg hf
        rw [hfn] at KF
        have H3 : Hid (Pool w (wr.alloc (Obj.cells #[] 55)) [ownP 55 2 ltEnc (.slice (some ⟨wr.heap.size, 0, none⟩) 0 0) []]) := (H.out.none_).addOwn ((Below.refl _ _).alloc (Nat.le_refl _) _) (Own.lit0 wr 55 2 ltEnc)
        clear hf hfn
        go_wp2_with (go_at_call 35; refine (KF.out _).mono ?_; rintro e w2 ⟨rfl, rfl⟩)
        go_ret2
        show LtPR _ _ _ _
        rw [Hr.out]
        exact ⟨_, 0, 0, rfl, H3.out.res 0 rfl, H3.out.below⟩
      · have hf0 : 0 ≤ findB 58 x := by omega
        have Hf := Lib.hid hf0
        obtain ⟨i, hi, hix, hbe, haf⟩ := findB_bd hf0
        rw [hi] at KF
        have Hlen := Lib.hid (H.out.own 0 rfl).len
        obtain ⟨N, hN⟩ : ∃ N, numVal (x.extract 0 i).data.toList = N := ⟨_, rfl⟩
        obtain ⟨ok, hok⟩ : ∃ ok, numOk (x.extract 0 i).data.toList = ok := ⟨_, rfl⟩
        have KN : Hid (∀ w, Calls Tryd.prog 36 #[.string (x.extract 0 i)] w fun e w' => e = .returned (.tuple #[.int .i64 N, .bool ok]) ∧ w = w') := fun w => by
          rw [← hN, ← hok]; exact specNum (x.extract 0 i) (by rw [ByteArray.size_extract]; omega) w
        have Ht : Hid (((parts s).take (k + 1)).map ltOfS = ((parts s).take k).map ltOfS ++ [(N, x.extract (i + 1) x.size)]) := by
          show _ = _
          rw [List.take_add_one, Hx.out, List.map_append, ← hN, ← hbe, ← haf]; rfl
        have Hfd : Hid (∀ p ∈ (parts s).take (k + 1), 0 ≤ findB 58 p) := fun p hp => by
          rw [List.take_add_one, Hx.out] at hp
          rcases List.mem_append.1 hp with hp | hp
          · exact HF.out p hp
          · have hp := List.mem_singleton.1 (show p ∈ [x] from hp)
            subst hp; exact Hf.out
        have i0 : (0 : Int) ≤ (i : Int) := by omega
        have i1 : (i : Int) ≤ (x.size : Int) := by omega
        have i2 : (0 : Int) ≤ (i : Int) + 1 := by omega
        have i3 : (i : Int) + 1 ≤ (x.size : Int) := by omega
        have HD : Hid (Pool w (wr.alloc (Obj.cells #[.int .i64 N, .string (x.extract (i + 1) x.size)] 55)) [ownP 55 2 ltEnc (.slice A2 k c2) (((parts s).take k).map ltOfS), ownP 9 1 strEnc (.slice (some ad) n c) (parts s)]) := H.out.alloc _
        clear hf hf0 hi hbe haf hN hok
        go_wp2_with (first
          | (go_at_call 35; refine (KF.out _).mono ?_; rintro e w2 ⟨rfl, rfl⟩)
          | (go_at_call 36; refine (KN.out _).mono ?_; rintro e w2 ⟨rfl, rfl⟩)
          | (at_builtin; refine wpList_append1L (.tmp 44) (.tmp 54) 22 55 lt_info Tryd.underlying22 rfl (by decide) rfl rfl (N, x.extract (i + 1) x.size) rfl Hlen.out (HD.out.own 0 rfl) rfl ltEnc_len (ltEnc_cells (N, x.extract (i + 1) x.size) rfl) (ltEnc_one _) (by omega) (by omega) (Nat.zero_le _) ?_; intro g3 c3 w5 ho3 hg3 hat3))
        have HE := Lib.hid (HD.out.append 0 rfl ho3 hg3 (fun q e => by injection e with e; subst e; exact hat3))
        rw [← Ht.out] at HE
        clear ho3 hg3 hat3
        go_roundw
        case rel => exact ⟨k + 1, _, c3, by omega, by omega, by go_num, rfl, Hfd.out, HE.out⟩
        case measure => simp [intOf]; omega
    · have hlast : k = n ∨ k = 61 := by omega
      have hcond : (k : Int) < (n : Int) → ¬ (k : Int) ≤ 60 := by omega
      have htk : (parts s).take k = (parts s).take 61 := by
        rcases hlast with h | h
        · have := Hln.out
          rw [List.take_of_length_le (by omega), List.take_of_length_le (by omega)]
        · rw [h]
      rw [htk] at HF H
      obtain ⟨L, hL⟩ : ∃ L, ((parts s).take 61).map ltOfS = L := ⟨_, rfl⟩
      have hsp := parseLt_spec Hd.out HF.out
      rw [hL] at H hsp
      have Hsp := Lib.hid hsp
      have HzL : Hid (∀ x ∈ L, x.2.size ≤ 1048576) := fun x hx => by
        rw [← hL] at hx
        obtain ⟨p, hp, rfl⟩ := List.mem_map.1 hx
        exact ltOfS_size (Hz.out p (List.mem_of_mem_take hp))
      have Hlen := Lib.hid (H.out.own 0 rfl).len
      obtain ⟨G, hG⟩ : ∃ G, fmtB L = G := ⟨_, rfl⟩
      have KG : Hid (Calls Tryd.prog 14 #[.slice A2 k c2] wr fun e w' => e = .returned (.string G) ∧ Below wr.heap.size wr w') := by
        have := specFormatBatch A2 L k c2 Hlen.out wr (by omega) HzL.out ((H.out.own 0 rfl).rd ltEnc_len)
        rw [hG] at this; exact this
      rw [hG] at Hsp
      clear hsp hL htk hG
      have hlI : (k : Int) < (n : Int) ∨ ¬ (k : Int) < (n : Int) := by omega
      by_cases he : G = s
      · have Hr : Hid (parseLt s = (L, true)) := by show _ = _; rw [← Hsp.out, if_pos he]
        have hq2 := str_t he
        clear he
        rcases hlI with hlI | hlI
        · have h60I := hcond hlI
          clear hcond hlast
          go_wp2_with (go_at_call 14; refine KG.out.mono ?_; rintro e w2 ⟨rfl, hb⟩; have H3 := Lib.hid (H.out.step hb))
          go_ret2
          show LtPR _ _ _ _
          rw [Hr.out]
          exact ⟨_, _, _, rfl, H3.out.res 0 rfl, H3.out.below⟩
        · clear hcond hlast
          go_wp2_with (go_at_call 14; refine KG.out.mono ?_; rintro e w2 ⟨rfl, hb⟩; have H3 := Lib.hid (H.out.step hb))
          go_ret2
          show LtPR _ _ _ _
          rw [Hr.out]
          exact ⟨_, _, _, rfl, H3.out.res 0 rfl, H3.out.below⟩
      · have Hr : Hid (parseLt s = ([], false)) := by show _ = _; rw [← Hsp.out, if_neg he]
        have hq2 := str_f he
        clear he
        rcases hlI with hlI | hlI
        · have h60I := hcond hlI
          clear hcond hlast
          go_wp2_with (go_at_call 14; refine KG.out.mono ?_; rintro e w2 ⟨rfl, hb⟩; have H3 := Lib.hid (H.out.step hb))
          have H4 : Hid (Pool w (w2.alloc (Obj.cells #[] 55)) [ownP 55 2 ltEnc (.slice (some ⟨w2.heap.size, 0, none⟩) 0 0) []]) := (H3.out.none_).addOwn ((Below.refl _ _).alloc (Nat.le_refl _) _) (Own.lit0 w2 55 2 ltEnc)
          go_ret2
          show LtPR _ _ _ _
          rw [Hr.out]
          exact ⟨_, 0, 0, rfl, H4.out.res 0 rfl, H4.out.below⟩
        · clear hcond hlast
          go_wp2_with (go_at_call 14; refine KG.out.mono ?_; rintro e w2 ⟨rfl, hb⟩; have H3 := Lib.hid (H.out.step hb))
          have H4 : Hid (Pool w (w2.alloc (Obj.cells #[] 55)) [ownP 55 2 ltEnc (.slice (some ⟨w2.heap.size, 0, none⟩) 0 0) []]) := (H3.out.none_).addOwn ((Below.refl _ _).alloc (Nat.le_refl _) _) (Own.lit0 w2 55 2 ltEnc)
          go_ret2
          show LtPR _ _ _ _
          rw [Hr.out]
          exact ⟨_, 0, 0, rfl, H4.out.res 0 rfl, H4.out.below⟩

end
end Go.Proofs.YtjibjoapbjojlaaDoor
