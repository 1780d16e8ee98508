/-
  Letters placed into bins: the program's.
-/
import Derived.Test.YtfilggdiljpakaaPsM
import Derived.Test.YtfilggdiljpakaaPoolL
import Derived.Test.YtfilggdiljpakaaPlB
import Derived.Test.YtfilggdiljpakaaPlHb
import Derived.Deep.AppendLies
import Derived.Deep.RegionLaw
namespace Go.Proofs.Ytfilggdiljpakaa
open Go.RowKit

theorem lts_info : (Try.prog.info? 23).map (fun i => (i.zero, i.size, i.bytes)) = some (some (.slice none 0 0), 1, 24) := by kernel_rfl
theorem made_raw (z : Value) (n : Nat) : (madeCells #[z] (n * 1)).toList = (List.replicate n z).flatMap rawEnc := by
  rw [flat_replicate rawEnc z n]; exact made1 z n
/-- Bins and the letters without one, as a result. -/
def PlaceRet (B : Nat) (f : Str → Int) (m : List Lt) (w : World) (e : Ending) (w' : World) : Prop :=
  ∃ g hs A n c, e = .returned (.tuple #[.slice (some ⟨g, 0, none⟩) B B, .slice A n c]) ∧ hs.length = B ∧
    Pool w w' (ownP 23 1 rawEnc (.slice (some ⟨g, 0, none⟩) B B) hs :: ownP 41 2 ltEnc (.slice A n c) (plRest f m) :: innerP 41 hs (plBins B f m))
theorem binVal_sign {b : Int} (hb : 2 ≤ b) (l : List Str) (c : Str) (pass : Int) : (binVal b l c pass < 0 ∧ strIdx l c = none) ∨ (∃ k : Nat, k < b.toNat ∧ binVal b l c pass = (k : Int) ∧ strIdx l c ≠ none) := by
  unfold binVal
  cases strIdx l c with
  | none => left; exact ⟨by show (-1 : Int) < 0; decide, rfl⟩
  | some k =>
    right
    have h1 := Int.emod_nonneg ((k : Int) / pw b pass.toNat) (show b ≠ 0 by omega)
    have h2 := Int.emod_lt_of_pos ((k : Int) / pw b pass.toNat) (show 0 < b by omega)
    obtain ⟨v, hv⟩ : ∃ v, (k : Int) / pw b pass.toNat % b = v := ⟨_, rfl⟩
    rw [hv] at h1 h2
    refine ⟨v.toNat, by omega, ?_, by simp⟩
    show (k : Int) / pw b pass.toNat % b = _
    rw [hv]; omega
theorem pool_last {w0 w : World} {a b p : Piece} {xs : List Piece} (h : Pool w0 w (a :: b :: (xs ++ [p]))) : p.P w := (h.all p (by simp)).1

set_option maxHeartbeats 4000000 in
set_option maxRecDepth 100000 in
theorem implPlace (B : Nat) (p : Int) (A : Option Addr) (l : List Str) (n cap : Nat) (hl : n = l.length) (D : Option Addr) (m : List Lt) (k capm : Nat) (hk : k = m.length) (pass : Int) (w : World) (hn : n ≤ 16777216) (hkn : k ≤ 16777216) (h1 : 2 ≤ B) (h2 : B ≤ 16) (h3 : 0 ≤ pass) (h4 : pass ≤ 4) (h : Rd w 1 strEnc A l) (hm : Rd w 2 ltEnc D m) :
    Calls Try.prog 50 #[.agg #[.int .i64 B, .int .i64 p, .slice A n cap], .slice D k capm, .int .i64 pass, .slice none 0 0] w fun e w' => PlaceRet B (fun c => binVal B l c pass) m w e w' := by
  have Hl := Lib.hid hl
  have Hk := Lib.hid hk
  have Hr := Lib.hid h
  have Hm := Lib.hid hm
  clear h hm hl hk
  obtain ⟨i0, hi, hz0, hz1, hz2⟩ := info_parts lts_info
  obtain ⟨j0, ji, jz0, jz1, jz2⟩ := info_parts lt_info
  obtain ⟨f, hf⟩ : ∃ f : Str → Int, f = fun c => binVal B l c pass := ⟨_, rfl⟩
  have Hf := Lib.hid hf
  have HB : Hid (Pool w (w.alloc (Obj.cells #[.int .i64 B, .int .i64 p, .slice A n cap] 35)) (ownP 41 2 ltEnc (.slice none 0 0) (plRest f []) :: (innerP 41 (List.replicate B (.slice none 0 0)) (List.replicate B []) ++ [boxP w.heap.size (.int .i64 B) (.int .i64 p) (.slice A n cap)]))) :=
    (((Pool.nil_ w).addBox rfl (.int .i64 B) (.int .i64 p) (.slice A n cap) 35).nils (T := 41) B).add (Below.refl _ _) (ownP _ 2 ltEnc (.slice none 0 0) []) (Own.nil_ _ _ _ _ _) (fun k hk => by simp [ownP, Value.ownBlock] at hk)
  clear hf
  rw [show (fun c => binVal B l c pass) = f from Hf.out.symm]
  go_enter Try.func50, Try.ntmps50
  have hbx : Box (w.alloc (Obj.cells #[.int .i64 B, .int .i64 p, .slice A n cap] 35)) w.heap.size (.int .i64 B) (.int .i64 p) (.slice A n cap) := Box.of_heap (heap_new _ _)
  obtain ⟨-, c0, c1, c2, -⟩ := hbx
  go_wp2_with (at_make; refine wpList_make_full _ rfl _ _ 49 rfl (w.heap.size + 1) 23 i0 _ 1 Try.underlying49 hi hz0 hz1 .i64 .i64 _ _ B rfl rfl rfl rfl (by rw [hz2]; omega) (by unfold maxLen; omega) (by simp) ?_; intro w1 hown1 hg1)
  clear c0 c1 c2
  have hP : Hid (Pool w w1 (ownP 23 1 rawEnc (.slice (some ⟨w.heap.size + 1, 0, none⟩) B B) (List.replicate B (.slice none 0 0)) :: ownP 41 2 ltEnc (.slice none 0 0) (plRest f []) :: (innerP 41 (List.replicate B (.slice none 0 0)) (plBins B f []) ++ [boxP w.heap.size (.int .i64 B) (.int .i64 p) (.slice A n cap)]))) := by
    rw [plBins_nil]
    refine HB.out.addOwn (grown_below hg1 (fun _ e => by cases e)) ?_
    unfold Own
    rw [List.length_replicate, ← made_raw]
    rw [show (Value.slice none 0 0).cells = #[Value.slice none 0 0] from rfl] at hown1
    simpa using hown1
  clear HB hown1 hg1
  go_wp2_with fail
  go_loopw [22, 11] (fun i o wr => ∃ j : Nat, j ≤ k ∧ i = .int .i64 j ∧ ∃ hs A2 n2 c2, o = .slice A2 n2 c2 ∧ n2 ≤ j ∧ Hid (hs.length = B) ∧ Hid (Pool w wr (ownP 23 1 rawEnc (.slice (some ⟨w.heap.size + 1, 0, none⟩) B B) hs :: ownP 41 2 ltEnc (.slice A2 n2 c2) (plRest f (m.take j)) :: (innerP 41 hs (plBins B f (m.take j)) ++ [boxP w.heap.size (.int .i64 B) (.int .i64 p) (.slice A n cap)])))) (fun i _ _ => k - (intOf i).toNat)
  case atStart => exact ⟨0, Nat.zero_le _, rfl, _, none, 0, 0, rfl, Nat.le_refl _, by show _ = _; simp, hP.out⟩
  case round =>
    clear hP
    obtain ⟨j, hj, rfl, hs, A2, n2, c2, rfl, hn2, Hlen, HP⟩ := hrel
    by_cases hlt : j < k
    · obtain ⟨x, hx⟩ : ∃ x, m[j]? = some x := ⟨_, List.getElem?_eq_getElem (by have := Hk.out; omega)⟩
      obtain ⟨ad, rfl, hab, d0, d1⟩ := (Hm.out.below HP.out.below).two hx rfl
      have Hx := Lib.hid hx
      clear hx
      have H2 := Lib.hid (HP.out.alloc (Obj.cells #[.int .i64 x.1, .string x.2] 41))
      have hbx : Box (wr.alloc (Obj.cells #[.int .i64 x.1, .string x.2] 41)) w.heap.size (.int .i64 B) (.int .i64 p) (.slice A n cap) := pool_last H2.out
      obtain ⟨-, e0, e1, e2, -⟩ := hbx
      have hwz : w.heap.size + 1 ≤ wr.heap.size := by have := ((HP.out.own 0 rfl).lt (w.heap.size + 1) rfl).2; omega
      go_wp2_with fail
      refine (implBinOf (B : Int) p A l _ _ Hl.out x.2 pass _ hn (by omega) (by omega) h3 h4 (Hr.out.below H2.out.below)).mono ?_
      rw [show binVal (B : Int) l x.2 pass = f x.2 from by rw [Hf.out]]
      rintro e w2 ⟨rfl, hb2⟩
      have H3 := Lib.hid (H2.out.step hb2)
      have l0 : w2.cell? ⟨wr.heap.size, 0, none⟩ = some (.int .i64 x.1) := below_cell hb2 (World.cell?_alloc_at _ _ _ 0 rfl)
      have l1 : w2.cell? ⟨wr.heap.size, 1, none⟩ = some (.string x.2) := below_cell hb2 (World.cell?_alloc_at _ _ _ 1 rfl)
      clear hb2 H2 e0 e1 e2 d0 d1
      obtain ⟨v, hv⟩ : ∃ v, f x.2 = v := ⟨_, rfl⟩
      have hcase : v < 0 ∨ ∃ q : Nat, q < B ∧ v = (q : Int) := by
        rcases binVal_sign (b := (B : Int)) (by omega) l x.2 pass with ⟨h, -⟩ | ⟨q, h, h', -⟩
        · left; rw [← hv, Hf.out]; exact h
        · right; exact ⟨q, by omega, by rw [← hv, Hf.out]; exact h'⟩
      rw [hv]
      have Hv := Lib.hid hv
      clear hv
      rcases hcase with hneg | ⟨q, hq, rfl⟩
      · have F1 : Hid (plBins B f (m.take (j + 1)) = plBins B f (m.take j)) := plBins_skip Hx.out (by rw [Hv.out]; exact hneg)
        have F2 : Hid (plRest f (m.take (j + 1)) = plRest f (m.take j) ++ [x]) := plRest_step Hx.out (by rw [Hv.out]; exact hneg)
        go_wp2_with fail
        go_loopw [33, 14] (fun i t wq => i = .int .i64 0 ∧ t = .int .i64 v ∧ wq = w2) (fun _ _ _ => 0)
        case atStart => exact ⟨rfl, rfl, rfl⟩
        case round =>
          obtain ⟨rfl, rfl, rfl⟩ := hrel
          go_wp2_with (at_builtin; refine wpList_append1L (.tmp 47) (.tmp 49) 23 41 lt_info Try.underlying23 rfl (by decide) rfl rfl x rfl (H3.out.own 1 rfl).len ((H3.out.alloc _).own 1 rfl) rfl ltEnc_len (ltEnc_cells x rfl) (ltEnc_one x) (by omega) (by omega) (Nat.zero_le _) ?_; intro g3 c3 w3 ho3 hg3 hat3)
          go_roundw
          case rel => exact ⟨j + 1, by omega, by go_num, hs, _, _, _, rfl, by omega, Hlen.out, by rw [F1.out, F2.out]; exact (H3.out.alloc _).append 1 rfl ho3 hg3 (fun q e => by injection e with e; subst e; exact hat3)⟩
          case measure => simp [intOf]; omega
      · have F1 : Hid (plBins B f (m.take (j + 1)) = (plBins B f (m.take j)).set q (plBin f (m.take j) q ++ [x])) := plBins_step Hx.out Hv.out
        have F2 : Hid (plRest f (m.take (j + 1)) = plRest f (m.take j)) := plRest_skip Hx.out (by rw [Hv.out]; omega)
        obtain ⟨u, hu⟩ : ∃ u, hs[q]? = some u := ⟨_, List.getElem?_eq_getElem (by have := Hlen.out; omega)⟩
        have hlq : (plBins B f (m.take j))[q]? = some (plBin f (m.take j) q) := plBins_at hq
        have hlen : (plBin f (m.take j) q).length ≤ j := Nat.le_trans (plBin_len _ _ _) (by rw [List.length_take]; omega)
        obtain ⟨y, hy⟩ : ∃ y, plBin f (m.take j) q = y := ⟨_, rfl⟩
        rw [hy] at hlq F1 hlen
        have Hu := Lib.hid hu
        have Hlq := Lib.hid hlq
        clear hu hlq hy
        obtain ⟨⟨q0, q1⟩, ho⟩ := H3.out.binHead Hu.out Hlq.out
        have HD := Lib.hid (H3.out.alloc (Obj.cells #[.int .i64 x.1, .string x.2] 41)).drew1
        have Hraw : Hid ((w2.alloc (Obj.cells #[.int .i64 x.1, .string x.2] 41)).drew.ownsRow 0 41 2 u y.length (y.flatMap ltEnc)) := (HD.out.binHead Hu.out Hlq.out).2
        have Hnews : Hid (∀ (i : Nat) (z : Value), (ltEnc x)[i]? = some z → (w2.alloc (Obj.cells #[.int .i64 x.1, .string x.2] 41)).drew.cell? (Addr.add ⟨w2.heap.size, 0, none⟩ i) = some z) := ltEnc_cells x rfl
        have q0' := fun o => cell_alloc q0 o
        have l0' := fun o => cell_alloc l0 o
        have l1' := fun o => cell_alloc l1 o
        have b1 : (q : Int) < (B : Int) := by omega
        clear ho
        go_wp2_with fail
        go_loopw [33, 14] (fun i t wq => i = .int .i64 0 ∧ t = .int .i64 q ∧ wq = w2) (fun _ _ _ => 0)
        case atStart => exact ⟨rfl, rfl, rfl⟩
        case round =>
          obtain ⟨rfl, rfl, rfl⟩ := hrel
          go_wp2_with fail
          go_region_law (refine step_append_lies _ (by rfl) (.tmp 56) (.tmp 58) 23 (by rfl) 0 41 j0 _ 2 24 Try.underlying23 ji jz0 jz1 jz2 rfl (by decide) u y.length (y.flatMap ltEnc) (by rfl) Hraw.out _ 1 1 (ltEnc x) (by rfl) (by rfl) Hnews.out (ltEnc_one x) (by decide) (by unfold maxLen; omega) (by omega) (Nat.zero_le _) _ rfl ?_; intro g3 c3 w5 hown5 hg5 hat5 hlt5; obtain ⟨q2, q3⟩ := HD.out.binCell Hu.out Hlq.out hg5 (by rcases hat5 with h' | h'; exact .inl h'; exact .inr (by omega)) (own_push hown5 rfl))
          all_goals
            have HE := HD.out.bin Hu.out Hlq.out hg5 (by rcases hat5 with h' | h'; exact .inl h'; exact .inr (by omega)) (own_push hown5 rfl)
            rw [← F1.out] at HE
            go_wp2
            go_roundw
            case rel => exact ⟨j + 1, by omega, by go_num, hs.set q (.slice (some ⟨g3, 0, none⟩) (y.length + 1) c3), A2, n2, c2, rfl, by omega, (List.length_set).trans Hlen.out, by rw [F2.out]; exact HE⟩
            case measure => simp [intOf]; omega
    · obtain rfl : j = k := by omega
      go_wp2
      go_ret2
      have t := List.take_of_length_le (l := m) (i := j) (by rw [Hk.out]; exact Nat.le_refl _)
      refine ⟨w.heap.size + 1, hs, A2, n2, c2, rfl, Hlen.out, ?_⟩
      have := HP.out
      rw [t] at this
      exact this.sub (by simp)

set_option maxHeartbeats 4000000 in
set_option maxRecDepth 100000 in
theorem specPlace (B : Nat) (p : Int) (A : Option Addr) (l : List Str) (n cap : Nat) (hl : n = l.length) (D : Option Addr) (m : List Lt) (k capm : Nat) (hk : k = m.length) (pass : Int) (w : World) (hn : n ≤ 16777216) (hkn : k ≤ 16777216) (h1 : 2 ≤ B) (h2 : B ≤ 16) (h3 : 0 ≤ pass) (h4 : pass ≤ 4) (h : Rd w 1 strEnc A l) (hm : Rd w 2 ltEnc D m) :
    Calls Try.prog 30 #[.agg #[.int .i64 B, .int .i64 p, .slice A n cap], .slice D k capm, .int .i64 pass] w fun e w' => PlaceRet B (fun c => binVal B l c pass) m w e w' := by
  have Hl := Lib.hid hl
  have Hk := Lib.hid hk
  have Hr := Lib.hid h
  have Hm := Lib.hid hm
  clear h hm hl hk
  obtain ⟨i0, hi, hz0, hz1, hz2⟩ := info_parts lts_info
  obtain ⟨j0, ji, jz0, jz1, jz2⟩ := info_parts lt_info
  obtain ⟨f, hf⟩ : ∃ f : Str → Int, f = fun c => binVal B l c pass := ⟨_, rfl⟩
  have Hf := Lib.hid hf
  have HB : Hid (Pool w (w.alloc (Obj.cells #[.int .i64 B, .int .i64 p, .slice A n cap] 35)) (ownP 41 2 ltEnc (.slice none 0 0) (plRest f []) :: (innerP 41 (List.replicate B (.slice none 0 0)) (List.replicate B []) ++ [boxP w.heap.size (.int .i64 B) (.int .i64 p) (.slice A n cap)]))) :=
    (((Pool.nil_ w).addBox rfl (.int .i64 B) (.int .i64 p) (.slice A n cap) 35).nils (T := 41) B).add (Below.refl _ _) (ownP _ 2 ltEnc (.slice none 0 0) []) (Own.nil_ _ _ _ _ _) (fun k hk => by simp [ownP, Value.ownBlock] at hk)
  clear hf
  rw [show (fun c => binVal B l c pass) = f from Hf.out.symm]
  go_enter Try.func30, Try.ntmps30
  have hbx : Box (w.alloc (Obj.cells #[.int .i64 B, .int .i64 p, .slice A n cap] 35)) w.heap.size (.int .i64 B) (.int .i64 p) (.slice A n cap) := Box.of_heap (heap_new _ _)
  obtain ⟨-, c0, c1, c2, -⟩ := hbx
  go_wp2_with (at_make; refine wpList_make_full _ rfl _ _ 49 rfl (w.heap.size + 1) 23 i0 _ 1 Try.underlying49 hi hz0 hz1 .i64 .i64 _ _ B rfl rfl rfl rfl (by rw [hz2]; omega) (by unfold maxLen; omega) (by simp) ?_; intro w1 hown1 hg1)
  clear c0 c1 c2
  have hP : Hid (Pool w w1 (ownP 23 1 rawEnc (.slice (some ⟨w.heap.size + 1, 0, none⟩) B B) (List.replicate B (.slice none 0 0)) :: ownP 41 2 ltEnc (.slice none 0 0) (plRest f []) :: (innerP 41 (List.replicate B (.slice none 0 0)) (plBins B f []) ++ [boxP w.heap.size (.int .i64 B) (.int .i64 p) (.slice A n cap)]))) := by
    rw [plBins_nil]
    refine HB.out.addOwn (grown_below hg1 (fun _ e => by cases e)) ?_
    unfold Own
    rw [List.length_replicate, ← made_raw]
    rw [show (Value.slice none 0 0).cells = #[Value.slice none 0 0] from rfl] at hown1
    simpa using hown1
  clear HB hown1 hg1
  have hQ : Hid (Pool w (w1.alloc (Obj.cells #[] 41)) (ownP 23 1 rawEnc (.slice (some ⟨w.heap.size + 1, 0, none⟩) B B) (List.replicate B (.slice none 0 0)) :: ownP 41 2 ltEnc (.slice (some ⟨w1.heap.size, 0, none⟩) 0 0) (plRest f []) :: (innerP 41 (List.replicate B (.slice none 0 0)) (plBins B f []) ++ [boxP w.heap.size (.int .i64 B) (.int .i64 p) (.slice A n cap)]))) :=
    ((hP.out.drop 1).addOwn ((Below.refl _ _).alloc (Nat.le_refl _) _) (Own.lit0 w1 41 2 ltEnc)).perm (List.Perm.swap _ _ _)
  clear hP
  go_wp2_with fail
  go_loopw [10, 9] (fun i o wr => ∃ j : Nat, j ≤ k ∧ i = .int .i64 j ∧ ∃ hs A2 n2 c2, o = .slice A2 n2 c2 ∧ n2 ≤ j ∧ Hid (hs.length = B) ∧ Hid (Pool w wr (ownP 23 1 rawEnc (.slice (some ⟨w.heap.size + 1, 0, none⟩) B B) hs :: ownP 41 2 ltEnc (.slice A2 n2 c2) (plRest f (m.take j)) :: (innerP 41 hs (plBins B f (m.take j)) ++ [boxP w.heap.size (.int .i64 B) (.int .i64 p) (.slice A n cap)])))) (fun i _ _ => k - (intOf i).toNat)
  case atStart => exact ⟨0, Nat.zero_le _, rfl, _, _, 0, 0, rfl, Nat.le_refl _, by show _ = _; simp, hQ.out⟩
  case round =>
    clear hQ
    obtain ⟨j, hj, rfl, hs, A2, n2, c2, rfl, hn2, Hlen, HP⟩ := hrel
    by_cases hlt : j < k
    · obtain ⟨x, hx⟩ : ∃ x, m[j]? = some x := ⟨_, List.getElem?_eq_getElem (by have := Hk.out; omega)⟩
      obtain ⟨ad, rfl, hab, d0, d1⟩ := (Hm.out.below HP.out.below).two hx rfl
      have Hx := Lib.hid hx
      clear hx
      have hwz : w.heap.size + 1 ≤ wr.heap.size := by have := ((HP.out.own 0 rfl).lt (w.heap.size + 1) rfl).2; omega
      have hbx : Box wr w.heap.size (.int .i64 B) (.int .i64 p) (.slice A n cap) := pool_last HP.out
      obtain ⟨-, c0, c1, c2, -⟩ := hbx
      have f0 : ∀ b : BW wr, b.w.cell? ⟨w.heap.size, 0, none⟩ = some (.int .i64 B) := fun b => b.cell c0
      have f1 : ∀ b : BW wr, b.w.cell? ⟨w.heap.size, 1, none⟩ = some (.int .i64 p) := fun b => b.cell c1
      have f2 : ∀ b : BW wr, b.w.cell? ⟨w.heap.size, 2, none⟩ = some (.slice A n cap) := fun b => b.cell c2
      have f3 : ∀ b : BW wr, b.w.cell? ⟨(ad.add (j * 2)).block, (ad.add (j * 2)).off + 1, none⟩ = some (.string x.2) := fun b => b.cell d1
      have KB : Hid (∀ b : BW wr, Calls Try.prog 53 #[.agg #[.int .i64 B, .int .i64 p, .slice A n cap], .string x.2, .int .i64 pass] b.w fun e w' => e = .returned (.int .i64 (f x.2)) ∧ Below b.w.heap.size b.w w') := fun b => by
        have := specBinOf (B : Int) p A l n cap Hl.out x.2 pass b.w hn (by omega) (by omega) h3 h4 (Hr.out.below (below_step HP.out.below b.h))
        rw [Hf.out]; exact this
      have hb1 : (j : Int) < (k : Int) := by omega
      obtain ⟨v, hv⟩ : ∃ v, f x.2 = v := ⟨_, rfl⟩
      have hcase : v < 0 ∨ ∃ q : Nat, q < B ∧ v = (q : Int) := by
        rcases binVal_sign (b := (B : Int)) (by omega) l x.2 pass with ⟨h, -⟩ | ⟨q, h, h', -⟩
        · left; rw [← hv, Hf.out]; exact h
        · right; exact ⟨q, by omega, by rw [← hv, Hf.out]; exact h'⟩
      rw [hv] at KB
      have Hv := Lib.hid hv
      clear hv
      go_wp2_with fail
      refine wp_region_bw wr (Below.refl _ _) (by kernel_rfl) (by kernel_rfl) ?_
      repeat (go_big_quiet_step ((go_at_call 53; with_reducible exact calls_bw (KB.out _))))
      refine wpQuiet_nil ?_
      rintro _ ⟨bw, rfl⟩
      have H3 := Lib.hid (HP.out.step bw.h)
      have l0 := bw.cell d0
      have l1 := bw.cell d1
      clear f0 f1 f2 f3 KB c0 c1 c2 d0 d1
      generalize bw.w = w2 at *
      rcases hcase with hneg | ⟨q, hq, rfl⟩
      · have F1 : Hid (plBins B f (m.take (j + 1)) = plBins B f (m.take j)) := plBins_skip Hx.out (by rw [Hv.out]; exact hneg)
        have F2 : Hid (plRest f (m.take (j + 1)) = plRest f (m.take j) ++ [x]) := plRest_step Hx.out (by rw [Hv.out]; exact hneg)
        go_wp2_with (at_builtin; refine wpList_append1L (.tmp 32) (.tmp 37) 23 41 lt_info Try.underlying23 rfl (by decide) rfl rfl x rfl (H3.out.own 1 rfl).len ((H3.out.alloc _).own 1 rfl) rfl ltEnc_len (ltEnc_cells x rfl) (ltEnc_one x) (by omega) (by omega) (Nat.zero_le _) ?_; intro g3 c3 w3 ho3 hg3 hat3)
        go_roundw
        case rel => exact ⟨j + 1, by omega, by go_num, hs, _, _, _, rfl, by omega, Hlen.out, by rw [F1.out, F2.out]; exact (H3.out.alloc _).append 1 rfl ho3 hg3 (fun q e => by injection e with e; subst e; exact hat3)⟩
        case measure => simp [intOf]; omega
      · have F1 : Hid (plBins B f (m.take (j + 1)) = (plBins B f (m.take j)).set q (plBin f (m.take j) q ++ [x])) := plBins_step Hx.out Hv.out
        have F2 : Hid (plRest f (m.take (j + 1)) = plRest f (m.take j)) := plRest_skip Hx.out (by rw [Hv.out]; omega)
        obtain ⟨u, hu⟩ : ∃ u, hs[q]? = some u := ⟨_, List.getElem?_eq_getElem (by have := Hlen.out; omega)⟩
        have hlq : (plBins B f (m.take j))[q]? = some (plBin f (m.take j) q) := plBins_at hq
        have hlen : (plBin f (m.take j) q).length ≤ j := Nat.le_trans (plBin_len _ _ _) (by rw [List.length_take]; omega)
        obtain ⟨y, hy⟩ : ∃ y, plBin f (m.take j) q = y := ⟨_, rfl⟩
        rw [hy] at hlq F1 hlen
        have Hu := Lib.hid hu
        have Hlq := Lib.hid hlq
        clear hu hlq hy
        obtain ⟨⟨q0, q1⟩, ho⟩ := H3.out.binHead Hu.out Hlq.out
        have HD := Lib.hid (H3.out.alloc (Obj.cells #[.int .i64 x.1, .string x.2] 41)).drew1
        have Hraw : Hid ((w2.alloc (Obj.cells #[.int .i64 x.1, .string x.2] 41)).drew.ownsRow 0 41 2 u y.length (y.flatMap ltEnc)) := (HD.out.binHead Hu.out Hlq.out).2
        have Hnews : Hid (∀ (i : Nat) (z : Value), (ltEnc x)[i]? = some z → (w2.alloc (Obj.cells #[.int .i64 x.1, .string x.2] 41)).drew.cell? (Addr.add ⟨w2.heap.size, 0, none⟩ i) = some z) := ltEnc_cells x rfl
        have q0' := fun o => cell_alloc q0 o
        have l0' := fun o => cell_alloc l0 o
        have l1' := fun o => cell_alloc l1 o
        have b1 : (q : Int) < (B : Int) := by omega
        clear ho
        go_wp2_with fail
        go_region_law (refine step_append_lies _ (by rfl) (.tmp 44) (.tmp 49) 23 (by rfl) 0 41 j0 _ 2 24 Try.underlying23 ji jz0 jz1 jz2 rfl (by decide) u y.length (y.flatMap ltEnc) (by rfl) Hraw.out _ 1 1 (ltEnc x) (by rfl) (by rfl) Hnews.out (ltEnc_one x) (by decide) (by unfold maxLen; omega) (by omega) (Nat.zero_le _) _ rfl ?_; intro g3 c3 w5 hown5 hg5 hat5 hlt5; obtain ⟨q2, q3⟩ := HD.out.binCell Hu.out Hlq.out hg5 (by rcases hat5 with h' | h'; exact .inl h'; exact .inr (by omega)) (own_push hown5 rfl))
        all_goals
          have HE := HD.out.bin Hu.out Hlq.out hg5 (by rcases hat5 with h' | h'; exact .inl h'; exact .inr (by omega)) (own_push hown5 rfl)
          rw [← F1.out] at HE
          go_wp2
          go_roundw
          case rel => exact ⟨j + 1, by omega, by go_num, hs.set q (.slice (some ⟨g3, 0, none⟩) (y.length + 1) c3), A2, n2, c2, rfl, by omega, (List.length_set).trans Hlen.out, by rw [F2.out]; exact HE⟩
          case measure => simp [intOf]; omega
    · obtain rfl : j = k := by omega
      go_wp2
      go_ret2
      have t := List.take_of_length_le (l := m) (i := j) (by rw [Hk.out]; exact Nat.le_refl _)
      refine ⟨w.heap.size + 1, hs, A2, n2, c2, rfl, Hlen.out, ?_⟩
      have := HP.out
      rw [t] at this
      exact this.sub (by simp)
end Go.Proofs.Ytfilggdiljpakaa
