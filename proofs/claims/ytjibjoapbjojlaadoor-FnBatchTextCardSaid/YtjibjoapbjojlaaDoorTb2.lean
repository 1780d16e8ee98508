/-
  The text of letters: the reference's.
  The text of letters: the program's and the reference's.
-/
import Derived.Test.YtjibjoapbjojlaaDoorTp1
import Derived.Test.YtjibjoapbjojlaaDoorFmA
import Derived.Test.YtjibjoapbjojlaaDoorPlB
import Derived.Lib.LaidTab
import Derived.Lib.AppendIntMem
namespace Go.Proofs.YtjibjoapbjojlaaDoor

section
open Go.RowKit

theorem ltPiece_eq (x : Lt) : ltPiece x = decS x.1 ++ (⟨#[58]⟩ : Str) ++ x.2 := rfl
theorem decS_size4 {b : Int} (h0 : 0 ≤ b) (h1 : b ≤ 9999) : (decS b).size ≤ 4 ∧ 1 ≤ (decS b).size := by
  obtain ⟨u, rfl⟩ := Int.eq_ofNat_of_zero_le h0
  rw [decS_nat, strOf_size]
  have := dec_facts 3 u (by omega)
  exact ⟨this.2.2.2.1, this.2.2.1⟩
theorem ltPiece_size {l : List Lt} (h : batchOk l = true) {x : Lt} (hx : x ∈ l) : 1 ≤ (ltPiece x).size ∧ (ltPiece x).size ≤ 12 := by
  obtain ⟨h1, h2, h3⟩ := batch_id h hx
  have := decS_size4 (b := x.1) (by omega) h2
  rw [ltPiece_eq, ByteArray.size_append, ByteArray.size_append, codeOk_size h3, show (⟨#[58]⟩ : Str).size = 1 from rfl]
  omega
theorem fmtB_join {l : List Lt} (h : batchOk l = true) : fmtB l = if (joinL (l.map ltPiece)).size = 0 then cDash else joinL (l.map ltPiece) := by
  unfold fmtB
  rw [h, if_pos rfl]
  by_cases h0 : l = []
  · subst h0; rw [if_pos rfl, List.map_nil, joinL_nil]; rfl
  · rw [if_neg h0, if_neg]
    intro h2
    obtain ⟨x, r, rfl⟩ := List.exists_cons_of_ne_nil h0
    have h3 := joinL_data ((x :: r).map ltPiece)
    rw [List.map_cons, List.map_cons, Lib.join_cons] at h3
    have h4 : (joinL ((x :: r).map ltPiece)).data.toList.length = 0 := h2
    rw [List.map_cons] at h4
    rw [h3, List.length_append] at h4
    have h5 := (ltPiece_size h (List.mem_cons_self)).1
    have h6 : (ltPiece x).data.toList.length = (ltPiece x).size := rfl
    omega

set_option maxHeartbeats 2000000 in
set_option maxRecDepth 100000 in
theorem dashC (out : Str) (w : World) : Calls Tryd.prog 48 #[.string out] w fun e w' => e = .returned (.string (if out.size = 0 then cDash else out)) ∧ w = w' := by
  by_cases hz : out.size = 0
  · have e2 : out = ByteArray.empty := str_eq' (by
      have : out.data.toList.length = 0 := hz
      rw [List.eq_nil_of_length_eq_zero this]; rfl)
    rw [if_pos hz, e2]
    have hq := str_t (a := (⟨#[]⟩ : Str)) rfl
    go_enter Tryd.func48, Tryd.ntmps48
    go_wp2
    go_ret
    exact ⟨rfl, rfl⟩
  · have hq : (ByteArray.toList out).isEmpty = false := by
      have := str_f (a := out) (b := (⟨#[]⟩ : Str)) (by rintro rfl; exact hz rfl)
      simpa using this
    rw [if_neg hz]
    clear hz
    go_enter Tryd.func48, Tryd.ntmps48
    go_wp2
    go_ret
    exact ⟨rfl, rfl⟩

end

section
open Go.RowKit

/-- A block of two cells. -/
def pairP (b : Nat) (u v : Value) : Piece :=
  ⟨[b], fun w => w.cell? ⟨b, 0, none⟩ = some u ∧ w.cell? ⟨b, 1, none⟩ = some v, fun _ _ _ hk h => ⟨(World.cell?_of_block (a := ⟨b, 0, none⟩) (hk b (by simp))).trans h.1, (World.cell?_of_block (a := ⟨b, 1, none⟩) (hk b (by simp))).trans h.2⟩⟩
theorem Pool.addPair {w0 w : World} {ps : List Piece} (h : Pool w0 w ps) {b : Nat} (hb : w.heap.size = b) (u v : Value) (t : TypeId) : Pool w0 (w.alloc (.cells #[u, v] t)) (pairP b u v :: ps) := by
  subst hb
  have e := heap_new w (.cells #[u, v] t)
  exact h.add ((Below.refl _ _).alloc (Nat.le_refl _) _) (pairP _ u v) ⟨(cells_of_heap e 0).1, (cells_of_heap e 1).1⟩ (fun k hk => by simp [pairP] at hk; subst hk; simp)
theorem keepB {w : World} {a b : Addr} {u v : Value} (h : w.cell? a = some u) (hne : b.block < a.block) : (w.setCell b v).cell? a = some u := by
  rw [World.cell?_setCell_other _ _ _ _ (by rintro rfl; omega)]; exact h
/-- The table lies, whatever is laid behind. -/
def TabUp (w : World) : Prop := ∀ w', Below w.heap.size w w' → Lib.TabIs Tryd.prog w' "internal/strconv.uint64pow10" .u64 Lib.pow10Tab
theorem TabUp.below {w w' : World} (h : TabUp w) (hb : Below w.heap.size w w') : TabUp w' := fun w2 hb2 => h w2 (below_step hb hb2)
theorem TabUp.itoa {w w2 : World} (h : TabUp w) (hb : Below w.heap.size w w2) {n : Int} (h0 : 0 ≤ n) (h1 : n ≤ 9999) :
    Calls Tryd.prog 44 #[.int .i64 n] w2 fun e w' => e = .returned (.string (decS n)) ∧ Below w2.heap.size w2 w' :=
  (Tryd.strconv_Itoa n (by omega) (by omega) w2 (h w2 hb)).mono fun _ _ ⟨he, k, os, hw⟩ => ⟨he, by subst hw; exact Lib.below_grow _ _ (Nat.le_refl _) _ _⟩

set_option maxHeartbeats 2000000 in
set_option maxRecDepth 100000 in
theorem implFormatBatch (A : Option Addr) (l : List Lt) (n cap : Nat) (hl : n = l.length) (hcap : n ≤ cap) (w : World) (hn : n ≤ 1048576) (hs : ∀ x ∈ l, x.2.size ≤ 1048576) (h : Rd w 2 ltEnc A l) (ht : TabUp w) :
    Calls Tryd.prog 13 #[.slice A n cap] w fun e w' => e = .returned (.string (fmtB l)) ∧ Below w.heap.size w w' := by
  have Hl := Lib.hid hl
  have Hr := Lib.hid h
  have Hs := Lib.hid hs
  have HT := Lib.hid ht
  clear h hs hl ht
  obtain ⟨i0, hi, hz0, hz1, hz2⟩ := info_parts str_info
  cases hv : batchOk l
  · have Hn : Hid (fmtB l = ByteArray.empty) := by show _ = _; unfold fmtB; rw [hv]; rfl
    go_enter Tryd.func13, Tryd.ntmps13
    go_wp2_with fail
    refine (implBatchValid _ l _ _ Hl.out hcap _ (by omega) Hs.out Hr.out).mono ?_
    rw [hv]
    rintro e w1 ⟨rfl, hb1⟩
    go_wp2
    go_ret
    exact ⟨by rw [Hn.out]; rfl, hb1⟩
  · by_cases h0 : n = 0
    · subst h0
      have Hn : Hid (fmtB l = cDash) := by show _ = _; unfold fmtB; rw [hv, List.eq_nil_of_length_eq_zero Hl.out.symm]; rfl
      go_enter Tryd.func13, Tryd.ntmps13
      go_wp2_with fail
      refine (implBatchValid _ l _ _ Hl.out hcap _ (by omega) Hs.out Hr.out).mono ?_
      rw [hv]
      rintro e w1 ⟨rfl, hb1⟩
      go_wp2
      go_ret
      exact ⟨by rw [Hn.out]; rfl, hb1⟩
    · have hne : l ≠ [] := by rintro rfl; exact h0 Hl.out
      have Hn : Hid (fmtB l = joinL (l.map ltPiece)) := by show _ = _; unfold fmtB; rw [hv, if_pos rfl, if_neg hne]
      have Hv := Lib.hid hv
      have h0' : ((n : Int) == 0) = false := by simp; omega
      have hn60 : n ≤ 60 := by rw [Hl.out]; exact ((batchOk_iff l).1 hv).1
      go_enter Tryd.func13, Tryd.ntmps13
      go_wp2_with fail
      refine (implBatchValid _ l _ _ Hl.out hcap _ (by omega) Hs.out Hr.out).mono ?_
      rw [hv]
      rintro e w1 ⟨rfl, hb1⟩
      have HB1 := Lib.hid hb1
      clear hb1 hv hne
      go_wp2_with (at_make; refine wpList_make_full _ rfl _ _ 34 rfl w1.heap.size 9 i0 _ 1 Tryd.underlying34 hi hz0 hz1 .i64 .i64 _ _ n rfl rfl rfl rfl (by rw [hz2]; omega) (by unfold maxLen; omega) (Nat.le_refl _) ?_; intro w2 hown2 hg2)
      have H1 : Hid (Pool w w2 [ownP 9 1 strEnc (.slice (some ⟨w1.heap.size, 0, none⟩) n n) (List.replicate n ByteArray.empty)]) := (Pool.of_below HB1.out).addOwn (grown_below hg2 (fun _ e => by cases e)) (by
        unfold Own
        rw [List.length_replicate, flat_replicate, show strEnc ByteArray.empty = [.string ByteArray.empty] from rfl, ← made1 (.string ByteArray.empty) n]
        exact hown2)
      clear hown2 hg2
      go_wp2_with fail
      go_loopw [17] (fun i wr => ∃ k : Nat, k ≤ n ∧ i = .int .i64 k ∧ Hid (Pool w wr [ownP 9 1 strEnc (.slice (some ⟨w1.heap.size, 0, none⟩) n n) ((l.map ltPiece).take k ++ List.replicate (n - k) ByteArray.empty)])) (fun i _ => n - (intOf i).toNat)
      case atStart => exact ⟨0, Nat.zero_le _, rfl, by rw [List.take_zero, List.nil_append, Nat.sub_zero]; exact H1.out⟩
      case round =>
        clear H1
        obtain ⟨k, hk, rfl, H⟩ := hrel
        by_cases hlt : k < n
        · obtain ⟨x, hx⟩ : ∃ x, l[k]? = some x := ⟨_, List.getElem?_eq_getElem (by have := Hl.out; omega)⟩
          have hid := batch_id Hv.out (List.mem_of_getElem? hx)
          have hd4 := decS_size4 (b := x.1) (by omega) hid.2.1
          have hc7 := codeOk_size hid.2.2
          obtain ⟨ad, rfl, hab, c0, c1⟩ := (Hr.out.below H.out.below).two hx rfl
          have hp : (l.map ltPiece)[k]? = some (ltPiece x) := by rw [List.getElem?_map, hx]; rfl
          have hml : (l.map ltPiece).length = n := by rw [List.length_map]; exact Hl.out.symm
          have hz : ((l.map ltPiece).take k ++ List.replicate (n - k) ByteArray.empty)[k]? = some ByteArray.empty := by
            rw [List.getElem?_append_right (by rw [List.length_take]; omega), List.getElem?_replicate, if_pos (by rw [List.length_take]; omega)]
          have Hset : Hid (((l.map ltPiece).take k ++ List.replicate (n - k) ByteArray.empty).set k (ltPiece x) = (l.map ltPiece).take (k + 1) ++ List.replicate (n - (k + 1)) ByteArray.empty) := by
            show _ = _
            have := take_set_rep (z := ByteArray.empty) hp
            rw [hml] at this
            exact this
          have Hz := Lib.hid hz
          have H2 : Hid (Pool w (wr.alloc (Obj.cells #[.int .i64 x.1, .string x.2] 55)).drew [pairP wr.heap.size (.int .i64 x.1) (.string x.2), ownP 9 1 strEnc (.slice (some ⟨w1.heap.size, 0, none⟩) n n) ((l.map ltPiece).take k ++ List.replicate (n - k) ByteArray.empty)]) := (H.out.addPair rfl _ _ _).drew1
          have Hlen := Lib.hid (H.out.own 0 rfl).len
          obtain ⟨S, hS⟩ : ∃ S, decS x.1 = S := ⟨_, rfl⟩
          have Hpc : Hid (ltPiece x = S ++ (⟨#[58]⟩ : Str) ++ x.2) := by show _ = _; rw [← hS]; exact ltPiece_eq x
          have KI : Hid (∀ w2, Below w.heap.size w w2 → Calls Tryd.prog 44 #[.int .i64 x.1] w2 fun e w' => e = .returned (.string S) ∧ Below w2.heap.size w2 w') := fun w2 hb => by
            rw [← hS]; exact HT.out.itoa hb (by omega) hid.2.1
          have hsS : S.size ≤ 4 := by rw [← hS]; exact hd4.1
          have d1 : ¬ 9223372036854775807 < S.size + 1 := by omega
          have d2 : ¬ 9223372036854775807 < S.size + 1 + x.2.size := by omega
          have hzz : w1.heap.size < wr.heap.size := ((H.out.own 0 rfl).lt w1.heap.size rfl).2
          have hkI : (k : Int) < (n : Int) := by omega
          clear hx hp hml hz hid hd4 hS hc7
          go_wp2_with fail
          go_region_held3 (fun w' => w'.cell? ⟨wr.heap.size, 0, none⟩ = some (.int .i64 x.1) ∧ w'.cell? ⟨wr.heap.size, 1, none⟩ = some (.string x.2))
            (first
              | exact H2.out.get 0 rfl
              | exact ⟨keepB (H2.out.get 0 rfl).1 hzz, keepB (H2.out.get 0 rfl).2 hzz⟩
              | fail)
            (first
              | (go_at_call 44; refine (KI.out _ H2.out.below).mono ?_; rintro e w3 ⟨rfl, hb⟩; have H2 := Lib.hid (H2.out.step hb); obtain ⟨q0, q1⟩ := (H2.out.own 1 rfl).cell2 strEnc_len Hlen.out Hz.out (j := 0) (by omega); rw [show (strEnc ByteArray.empty)[0]? = some (.string ByteArray.empty) from rfl] at q0; simp only [Nat.add_zero, Nat.mul_one] at q0 q1; clear hb)
              | fail)
          all_goals
            go_wp2
            go_roundw
            case rel =>
              refine ⟨k + 1, by omega, by go_num, ?_⟩
              have := (H2.out.own 1 rfl).set1 strEnc_len Hlen.out hlt (y := ltPiece x) rfl
              rw [Hset.out, Hpc.out] at this
              exact (H2.out.turnOwn 1 rfl this (grown_setCell (World.grownBy.refl _ _) (.inl rfl) _)).drop 0
            case measure => simp [intOf]; omega
        · obtain rfl : k = n := by omega
          have ho := H.out.own 0 rfl
          have hml : (l.map ltPiece).length = k := by rw [List.length_map]; exact Hl.out.symm
          rw [Nat.sub_self, List.replicate_zero, List.append_nil, List.take_of_length_le (Nat.le_of_eq hml)] at ho
          have hj := Tryd.strings_Join w1.heap.size 0 k (l.map ltPiece) cSp wr (fun j x hx => by
            have := (ho.cell2 strEnc_len ho.len hx (j := 0) (by omega)).1
            rw [Nat.zero_add]
            simpa [strEnc] using this) ((ho.lt w1.heap.size rfl).2) (by omega) (by omega) (by
            have h1 := joinL_size_le (l.map ltPiece) 12 (fun y hy => by
              obtain ⟨x, hx, rfl⟩ := List.mem_map.1 hy
              exact (ltPiece_size Hv.out hx).2)
            have h2 := joinL_data (l.map ltPiece)
            rw [show cSp.data.toList = [32] from rfl, ← h2]
            have h3 : (joinL (l.map ltPiece)).data.toList.length = (joinL (l.map ltPiece)).size := rfl
            rw [h3]; omega)
          rw [hml, show (⟨(Lib.join ((l.map ltPiece).map (·.data.toList)) cSp.data.toList).toArray⟩ : ByteArray) = joinL (l.map ltPiece) from rfl, ← Hn.out] at hj
          change Calls Tryd.prog 45 _ _ _ at hj
          have HJ := Lib.hid hj
          clear hj ho hml
          go_wp2_with fail
          refine HJ.out.mono ?_
          rintro e w3 ⟨rfl, hb⟩
          have HB := Lib.hid (below_step H.out.below hb)
          clear hb
          go_wp2
          go_ret
          exact ⟨rfl, HB.out⟩

set_option maxHeartbeats 2000000 in
set_option maxRecDepth 100000 in
theorem specFormatBatch (A : Option Addr) (l : List Lt) (n cap : Nat) (hl : n = l.length) (w : World) (hn : n ≤ 1048576) (hs : ∀ x ∈ l, x.2.size ≤ 1048576) (h : Rd w 2 ltEnc A l) :
    Calls Tryd.prog 14 #[.slice A n cap] w fun e w' => e = .returned (.string (fmtB l)) ∧ Below w.heap.size w w' := by
  have Hl := Lib.hid hl
  have Hr := Lib.hid h
  have Hs := Lib.hid hs
  clear h hs hl
  cases hv : batchOk l
  · have Hn : Hid (fmtB l = ByteArray.empty) := by show _ = _; unfold fmtB; rw [hv]; rfl
    go_enter Tryd.func14, Tryd.ntmps14
    go_wp2_with fail
    refine (specBatchValid _ l _ _ Hl.out _ (by omega) Hs.out Hr.out).mono ?_
    rw [hv]
    rintro e w1 ⟨rfl, hb⟩
    go_wp2
    go_ret
    exact ⟨by rw [Hn.out]; rfl, hb⟩
  · have Hn : Hid (fmtB l = if (joinL (l.map ltPiece)).size = 0 then cDash else joinL (l.map ltPiece)) := fmtB_join hv
    have Hv := Lib.hid hv
    have hn60 : n ≤ 60 := by rw [Hl.out]; exact ((batchOk_iff l).1 hv).1
    go_enter Tryd.func14, Tryd.ntmps14
    go_wp2_with fail
    refine (specBatchValid _ l _ _ Hl.out _ (by omega) Hs.out Hr.out).mono ?_
    rw [hv]
    rintro e w1 ⟨rfl, hb⟩
    have HB := Lib.hid hb
    clear hv hb
    go_wp2
    go_loopw [3, 4] (fun o i wr => ∃ (k : Nat) (out : Str), k ≤ n ∧ i = .int .i64 k ∧ o = .string out ∧ out.size ≤ 13 * k ∧ Hid (out = joinL ((l.map ltPiece).take k)) ∧ Hid (Below w.heap.size w wr)) (fun _ i _ => n - (intOf i).toNat)
    case atStart => exact ⟨0, ByteArray.empty, Nat.zero_le _, rfl, rfl, Nat.zero_le _, by rw [List.take_zero, joinL_nil]; exact Lib.hid rfl, HB.out⟩
    case round =>
      clear HB
      obtain ⟨k, out, hk, rfl, rfl, hsz, Hout, H⟩ := hrel
      by_cases hlt : k < n
      · obtain ⟨x, hx⟩ : ∃ x, l[k]? = some x := ⟨_, List.getElem?_eq_getElem (by have := Hl.out; omega)⟩
        have hid := batch_id Hv.out (List.mem_of_getElem? hx)
        have hd4 := decS_size4 (b := x.1) (by omega) hid.2.1
        have hc7 := codeOk_size hid.2.2
        obtain ⟨ad, rfl, hab, c0, c1⟩ := (Hr.out.below H.out).two hx rfl
        have hp : (l.map ltPiece)[k]? = some (ltPiece x) := by rw [List.getElem?_map, hx]; rfl
        have htk : (l.map ltPiece).take (k + 1) = (l.map ltPiece).take k ++ [ltPiece x] := by rw [List.take_add_one, hp]; rfl
        have hlt' : (k : Int) < (n : Int) := by omega
        obtain ⟨S, hS⟩ : ∃ S, decS x.1 = S := ⟨_, rfl⟩
        have hpc : ltPiece x = S ++ (⟨#[58]⟩ : Str) ++ x.2 := by rw [← hS]; exact ltPiece_eq x
        have hsS : S.size ≤ 4 := by rw [← hS]; exact hd4.1
        have hps : (ltPiece x).size ≤ 12 := by
          rw [hpc, ByteArray.size_append, ByteArray.size_append, show (⟨#[58]⟩ : Str).size = 1 from rfl]; omega
        have KI : Hid (∀ b' : BW wr, Calls Tryd.prog 47 #[.int .i64 x.1] b'.w fun e w' => e = .returned (.string S) ∧ Below b'.w.heap.size b'.w w') := fun b' => by
          obtain ⟨u, hu⟩ := Int.eq_ofNat_of_zero_le (show 0 ≤ x.1 by omega)
          rw [← hS, hu]
          exact specDec u (by omega) b'.w
        by_cases hk0 : k = 0
        · subst hk0
          rw [show ad.add (0 * 2) = ad from by cases ad; rfl] at c0 c1
          have f0 := fun b' : BW wr => b'.cell c0
          have f1 := fun b' : BW wr => b'.cell c1
          have Hnext : Hid (out ++ S ++ (⟨#[58]⟩ : Str) ++ x.2 = joinL ((l.map ltPiece).take (0 + 1)) ∧ (out ++ S ++ (⟨#[58]⟩ : Str) ++ x.2).size ≤ 13 * (0 + 1)) := by
            have e0 : out = ByteArray.empty := by have := Hout.out; rw [List.take_zero, joinL_nil] at this; exact this
            have e1 : out ++ S ++ (⟨#[58]⟩ : Str) ++ x.2 = ltPiece x := by
              subst e0
              rw [hpc]
              refine str_eq' ?_
              simp
            show _ ∧ _
            rw [e1, htk, List.take_zero, List.nil_append, joinL_one]
            exact ⟨rfl, by omega⟩
          clear hps hx hp htk hpc hS hid hd4 c0 c1
          go_wp2_with fail
          refine wp_region_bw wr (Below.refl _ _) (by kernel_rfl) (by kernel_rfl) ?_
          repeat (go_big_quiet_step ((go_at_call 47; with_reducible exact calls_bw (KI.out _))))
          refine wpQuiet_nil ?_
          rintro _ ⟨bw, rfl⟩
          have H2 := Lib.hid (below_step H.out bw.h)
          clear f0 f1 KI
          generalize bw.w = w2 at *
          go_wp2
          go_roundw
          case rel => exact ⟨0 + 1, _, by omega, by go_num, rfl, Hnext.out.2, Hnext.out.1, H2.out⟩
          case measure => simp [intOf]; omega
        · have b0 : 0 < k := by omega
          have b0' : (0 : Int) < (k : Int) := by omega
          have f0 := fun b' : BW wr => b'.cell c0
          have f1 := fun b' : BW wr => b'.cell c1
          have Hnext : Hid (out ++ (⟨#[32]⟩ : Str) ++ S ++ (⟨#[58]⟩ : Str) ++ x.2 = joinL ((l.map ltPiece).take (k + 1)) ∧ (out ++ (⟨#[32]⟩ : Str) ++ S ++ (⟨#[58]⟩ : Str) ++ x.2).size ≤ 13 * (k + 1)) := by
            have e1 : out ++ (⟨#[32]⟩ : Str) ++ S ++ (⟨#[58]⟩ : Str) ++ x.2 = joinL ((l.map ltPiece).take (k + 1)) := by
              rw [htk, joinL_push _ (by intro e; have := congrArg List.length e; rw [List.length_take, List.length_map, ← Hl.out] at this; have t : min k n = 0 := this; omega), ← Hout.out, hpc]
              refine str_eq' ?_
              unfold cSp
              simp [List.append_assoc]
            show _ ∧ _
            refine ⟨e1, ?_⟩
            rw [ByteArray.size_append, ByteArray.size_append, ByteArray.size_append, ByteArray.size_append, show (⟨#[32]⟩ : Str).size = 1 from rfl, show (⟨#[58]⟩ : Str).size = 1 from rfl]
            omega
          clear hps hx hp htk hpc hS hid hd4 c0 c1
          go_wp2_with fail
          refine wp_region_bw wr (Below.refl _ _) (by kernel_rfl) (by kernel_rfl) ?_
          repeat (go_big_quiet_step ((go_at_call 47; with_reducible exact calls_bw (KI.out _))))
          refine wpQuiet_nil ?_
          rintro _ ⟨bw, rfl⟩
          have H2 := Lib.hid (below_step H.out bw.h)
          clear f0 f1 KI
          generalize bw.w = w2 at *
          go_wp2
          go_roundw
          case rel => exact ⟨k + 1, _, by omega, by go_num, rfl, Hnext.out.2, Hnext.out.1, H2.out⟩
          case measure => simp [intOf]; omega
      · obtain rfl : k = n := by omega
        have e1 : out = joinL (l.map ltPiece) := by have := Hout.out; rw [List.take_of_length_le (by rw [List.length_map, ← Hl.out]; exact Nat.le_refl _)] at this; exact this
        rw [← e1] at Hn
        clear e1 Hout
        have KD : Hid (∀ w2, Calls Tryd.prog 48 #[.string out] w2 fun e w' => e = .returned (.string (fmtB l)) ∧ w2 = w') := fun w2 => by
          rw [Hn.out]; exact dashC out w2
        go_wp2_with fail
        refine (KD.out _).mono ?_
        rintro e w2 ⟨rfl, rfl⟩
        go_wp2
        go_ret
        exact ⟨rfl, H.out⟩

end
end Go.Proofs.YtjibjoapbjojlaaDoor
