/-
  The laws' own helpers on lists of lists of letters: comparison, marks.
-/
import Derived.Test.YtkpigdohgmhlkaaPsP
namespace Go.Proofs.Ytkpigdohgmhlkaa
open Go.RowKit

/-- Bins as one thing of a pool. -/
def binP (v : Value) (hs : List Value) (ls : List (List Lt)) : Piece := groupP (ownP 45 1 rawEnc v hs :: innerP 82 hs ls)
theorem Pool.front {w0 w : World} {ps : List Piece} (h : Pool w0 w ps) (i : Nat) {p : Piece} (hi : ps[i]? = some p) : Pool w0 w (p :: ps.eraseIdx i) := by
  refine h.perm ?_
  obtain ⟨hlt, rfl⟩ := List.getElem?_eq_some_iff.1 hi
  rw [List.eraseIdx_eq_take_drop_succ]
  have h2 : ps = ps.take i ++ ps[i] :: ps.drop (i + 1) := by rw [← List.drop_eq_getElem_cons hlt, List.take_append_drop]
  calc ps.Perm (ps.take i ++ ps[i] :: ps.drop (i + 1)) := by rw [← h2]
    _ |>.Perm _ := List.perm_middle
theorem Pool.binRd {w0 w : World} {ps : List Piece} (h : Pool w0 w ps) (i : Nat) {A : Option Addr} {n c : Nat} {hs : List Value} {ls : List (List Lt)} (hi : ps[i]? = some (binP (.slice A n c) hs ls)) (hl : hs.length = ls.length) : BinsRd w A hs ls ∧ n = hs.length := by
  have h1 := (h.front i hi).ungroup
  exact ⟨Pool.binsRd (T := 82) (rest := innerP 82 hs ls ++ ps.eraseIdx i) h1 (fun p hp => by simp [hp]) hl, (h1.own 0 rfl).len⟩
theorem BinsRet.group {w0 w w' : World} {ps : List Piece} (h : Pool w0 w ps) {A A' : Option Addr} {n c n' c' : Nat} {hs : List Value} {r : BinR}
    (k : Pool w w' (ownP 45 1 rawEnc (.slice A n c) hs :: ownP 82 2 ltEnc (.slice A' n' c') r.k :: innerP 82 hs r.b)) : Pool w0 w' (binP (.slice A n c) hs r.b :: ownP 82 2 ltEnc (.slice A' n' c') r.k :: ps) := by
  have h1 := h.join k
  refine Pool.group (ps := ownP 45 1 rawEnc (.slice A n c) hs :: innerP 82 hs r.b) (h1.perm ?_)
  simp only [List.cons_append]
  exact List.Perm.cons _ (List.perm_middle.symm)

def ltssEq (a b : List (List Lt)) : Bool := decide (a = b)
theorem ltssEq_self (a : List (List Lt)) : ltssEq a a = true := by simp [ltssEq]

set_option maxHeartbeats 2000000 in
set_option maxRecDepth 100000 in
theorem lawEqLetterSS (A B : Option Addr) (hs gs : List Value) (ls : List (List Lt)) (n m capa capb : Nat) (hn : n = hs.length) (hm : m = gs.length) (w : World) (hna : n ≤ 1048576) (hnl : ∀ l ∈ ls, l.length ≤ 1048576) (ha : BinsRd w A hs ls) (hb : BinsRd w B gs ls) :
    Calls Try.prog 45 #[.slice A n capa, .slice B m capb] w fun e w' => e = .returned (.bool true) ∧ Below w.heap.size w w' := by
  obtain rfl : m = n := by rw [hm, hn, ha.len, hb.len]
  have Ha := Lib.hid ha
  have Hb := Lib.hid hb
  have Hn := Lib.hid hn
  have Hnl := Lib.hid hnl
  have h0 : ((m : Int) != (m : Int)) = false := by simp
  clear ha hb hn hm hnl
  go_enter Try.func45, Try.ntmps45
  go_wp2
  go_loopw [5] (fun i wr => ∃ k : Nat, k ≤ m ∧ i = .int .i64 k ∧ Hid (Below w.heap.size w wr)) (fun i _ => m - (intOf i).toNat)
  case atStart => exact ⟨0, Nat.zero_le _, rfl, Below.refl _ _⟩
  case round =>
    obtain ⟨k, hk, rfl, H⟩ := hrel
    by_cases hlt : k < m
    · obtain ⟨l, hlk⟩ : ∃ l, ls[k]? = some l := ⟨_, List.getElem?_eq_getElem (by have := Ha.out.len; have := Hn.out; omega)⟩
      have hll := Hnl.out l (List.mem_of_getElem? hlk)
      obtain ⟨A2, c2, hv, h1, -, h3⟩ := (Ha.out.below H.out).inn k l hlk
      obtain ⟨B2, d2, hu, h4, -, h6⟩ := (Hb.out.below H.out).inn k l hlk
      obtain ⟨ad, rfl, hab, c0⟩ := (Ha.out.below H.out).out.one hv rfl
      obtain ⟨bd, rfl, hbb, d0⟩ := (Hb.out.below H.out).out.one hu rfl
      have H3 := Lib.hid h3
      have H6 := Lib.hid h6
      have f0 : ∀ b : BW wr, b.w.cell? (ad.add k) = some (.slice A2 l.length c2) := fun b => b.cell c0
      have f1 : ∀ b : BW wr, b.w.cell? (bd.add k) = some (.slice B2 l.length d2) := fun b => b.cell d0
      have KE : Hid (∀ b : BW wr, Calls Try.prog 36 #[.slice A2 l.length c2, .slice B2 l.length d2] b.w fun e w' => e = .returned (.bool true) ∧ Below b.w.heap.size b.w w') := fun b => by
        have := lawEqLetterS A2 B2 l l l.length l.length c2 d2 rfl rfl b.w (by omega) (by omega) (b.rd H3.out) (b.rd H6.out)
        rw [ltsEq_self] at this
        exact this
      have hlt' : (k : Int) < (m : Int) := by omega
      clear hv hu hlk h3 h6
      go_wp2_with fail
      first
        | (refine wp_region_bw wr (Below.refl _ _) (by kernel_rfl) (by kernel_rfl) ?_
           repeat (go_big_quiet_step ((go_at_call 36; with_reducible exact calls_bw (KE.out _))))
           refine wpQuiet_nil ?_
           rintro _ ⟨bw, rfl⟩
           have HX := Lib.hid (below_step H.out bw.h)
           clear f0 f1 KE
           generalize bw.w = w2 at *)
      go_wp2
      go_roundw
      case rel => exact ⟨k + 1, by omega, by go_num, HX.out⟩
      case measure => simp [intOf]; omega
    · obtain rfl : k = m := by omega
      go_wp2
      go_ret
      exact ⟨rfl, H.out⟩

theorem set_same {α : Type} {l : List α} {j : Nat} {v : α} (h : l[j]? = some v) : l.set j v = l := by
  obtain ⟨h1, rfl⟩ := List.getElem?_eq_some_iff.1 h
  exact List.set_getElem_self h1
/-- The marks of bins. -/
def ssMks : Nat → List (List Lt) → List (List Lt)
  | _, [] => []
  | k, l :: ls => ltMks k l.length :: ssMks (k + 2 * l.length) ls
theorem ssMks_len : ∀ (k : Nat) (ls : List (List Lt)), (ssMks k ls).length = ls.length
  | _, [] => rfl
  | k, l :: ls => by simp [ssMks, ssMks_len (k + 2 * l.length) ls]
theorem ltMks_len' (k n : Nat) : (ltMks k n).length = n := by simp [ltMks]
theorem ssMks_at : ∀ (k : Nat) (ls : List (List Lt)) (j : Nat) (l : List Lt), ls[j]? = some l → (ssMks k ls)[j]? = some (ltMks (k + 2 * (ls.take j).flatten.length) l.length)
  | _, [], j, _, h => by simp at h
  | k, x :: ls, 0, l, h => by simp at h; subst h; simp [ssMks]
  | k, x :: ls, j + 1, l, h => by
    simp only [List.getElem?_cons_succ] at h
    have := ssMks_at (k + 2 * x.length) ls j l h
    simp only [ssMks, List.getElem?_cons_succ, List.take_succ_cons, List.flatten_cons, List.length_append]
    rw [this, show k + 2 * x.length + 2 * (ls.take j).flatten.length = k + 2 * (x.length + (ls.take j).flatten.length) from by omega]

set_option maxHeartbeats 2000000 in
set_option maxRecDepth 100000 in
theorem lawMarkLetterSS (A : Option Addr) (hs : List Value) (ls : List (List Lt)) (n cap k T : Nat) (hT : ls.flatten.length = T) (hl : hs.length = ls.length) (hTm : T ≤ 1048576) (w0 w : World) (ps : List Piece) (hn : n ≤ 1048576) (hk0 : 1 ≤ k) (hk : k ≤ 4194304) (h : Pool w0 w (binP (.slice A n cap) hs ls :: ps)) :
    Calls Try.prog 46 #[.slice A n cap, .int .i64 k] w fun e w' => e = .returned (.int .i64 (k + 2 * T : Nat)) ∧ Pool w0 w' (binP (.slice A n cap) hs (ssMks k ls) :: ps) := by
  have hnn := (h.binRd 0 rfl hl).2
  have Hnn := Lib.hid hnn
  have Hl := Lib.hid hl
  have HT := Lib.hid hT
  have H : Hid (Pool w0 w (ownP 45 1 rawEnc (.slice A n cap) hs :: (innerP 82 hs ((ssMks k ls).take 0 ++ ls.drop 0) ++ ps))) := by
    show Pool _ _ _
    simpa using h.ungroup
  clear h hnn hl hT
  go_enter Try.func46, Try.ntmps46
  go_wp2
  go_loopw [1, 5] (fun t i wr => ∃ j : Nat, j ≤ n ∧ i = .int .i64 j ∧ ∃ q : Nat, t = .int .i64 q ∧ q ≤ k + 2 * T ∧ k ≤ q ∧ Hid (q = k + 2 * (ls.take j).flatten.length) ∧ Hid (Pool w0 wr (ownP 45 1 rawEnc (.slice A n cap) hs :: (innerP 82 hs ((ssMks k ls).take j ++ ls.drop j) ++ ps)))) (fun _ i _ => n - (intOf i).toNat)
  case atStart => exact ⟨0, Nat.zero_le _, rfl, k, rfl, by omega, Nat.le_refl _, by show _ = _; simp, H.out⟩
  case round =>
    clear H
    obtain ⟨j, hj, rfl, q, rfl, hq1, hq2, Hq, H⟩ := hrel
    by_cases hlt : j < n
    · obtain ⟨l, hlj⟩ : ∃ l, ls[j]? = some l := ⟨_, List.getElem?_eq_getElem (by have := Hl.out; have := Hnn.out; omega)⟩
      obtain ⟨v, hv⟩ : ∃ v, hs[j]? = some v := ⟨_, List.getElem?_eq_getElem (by have := Hnn.out; omega)⟩
      have hsj : ((ssMks k ls).take j ++ ls.drop j)[j]? = some l := by
        rw [List.getElem?_append_right (by rw [List.length_take, ssMks_len]; omega), List.length_take, ssMks_len, List.getElem?_drop]
        rw [← hlj]; congr 1; have := Hl.out; have := Hnn.out; omega
      have hkl : j < (innerP 82 hs ((ssMks k ls).take j ++ ls.drop j)).length := (List.getElem?_eq_some_iff.1 (innerP_at (T := 82) hv hsj)).1
      have hix : (ownP 45 1 rawEnc (.slice A n cap) hs :: (innerP 82 hs ((ssMks k ls).take j ++ ls.drop j) ++ ps))[j + 1]? = some (ownP 82 2 ltEnc v l) := by
        simp only [List.getElem?_cons_succ]
        rw [List.getElem?_append_left hkl]
        exact innerP_at hv hsj
      have ho := H.out.own (j + 1) hix
      obtain ⟨A2, c2, rfl, hc2, -, -⟩ := ho.formN ltEnc_len
      obtain ⟨ad, rfl, hab, c0⟩ := ((H.out.own 0 rfl).rd rawEnc_len).one hv rfl
      have hFt : (ls.take (j + 1)).flatten.length = (ls.take j).flatten.length + l.length := by rw [flat_tk hlj, List.length_append]
      have hFl : (ls.take (j + 1)).flatten.length ≤ T := by rw [← HT.out]; exact flat_tk_len ls (j + 1)
      have hql : q + 2 * l.length ≤ k + 2 * T := by have := Hq.out; omega
      have hll : l.length ≤ 1048576 := by omega
      have Hq2 : Hid (q + 2 * l.length = k + 2 * (ls.take (j + 1)).flatten.length) := by show _ = _; have := Hq.out; omega
      have Hset : Hid (((ssMks k ls).take j ++ ls.drop j).set j (ltMks q l.length) = (ssMks k ls).take (j + 1) ++ ls.drop (j + 1)) := by
        show _ = _
        have e1 := ssMks_at k ls j l hlj
        rw [← Hq.out] at e1
        have hjl := (List.getElem?_eq_some_iff.1 hlj).1
        rw [tk_succ e1, List.set_append_right _ _ (by rw [List.length_take, ssMks_len]; omega), List.length_take, ssMks_len, show j - min j ls.length = 0 from by omega, List.drop_eq_getElem_cons hjl, List.set_cons_zero, List.append_assoc]
        rfl
      have Ho := Lib.hid ho
      have Hix := Lib.hid hix
      have Hv := Lib.hid hv
      clear hsj hlj hFt hFl ho hix hv
      go_wp2_with fail
      refine (lawMarkLetterS A2 l l.length c2 q _ _ (by omega) (by omega) (by omega) Ho.out).mono ?_
      rintro e w2 ⟨rfl, ho2, hg2⟩
      have H2 := H.out.turnOwn (j + 1) Hix.out ho2 hg2
      simp only [List.set_cons_succ] at H2
      rw [List.set_append_left _ _ hkl, show ownP 82 2 ltEnc (.slice A2 l.length c2) (ltMks q l.length) = ltsP 82 (.slice A2 l.length c2) (ltMks q l.length) from rfl, innerP_set, Hset.out, set_same Hv.out] at H2
      have H2 := Lib.hid H2
      clear ho2 hg2
      go_wp2
      go_roundw
      case rel => exact ⟨j + 1, by omega, by go_num, q + 2 * l.length, by go_num, hql, by omega, Hq2.out, H2.out⟩
      case measure => simp [intOf]; omega
    · obtain rfl : j = n := by omega
      go_wp2
      go_ret
      have e1 := Hq.out
      have e2 := HT.out
      have hlj : ls.length ≤ j := by have := Hl.out; have := Hnn.out; omega
      rw [List.take_of_length_le hlj] at e1
      have e3 : q = k + 2 * T := by omega
      refine ⟨by rw [e3]; rfl, ?_⟩
      have := H.out
      rw [List.take_of_length_le (by rw [ssMks_len]; exact hlj), List.drop_eq_nil_of_le hlj, List.append_nil] at this
      exact Pool.group (ps := ownP 45 1 rawEnc (.slice A j cap) hs :: innerP 82 hs (ssMks k ls)) this

set_option maxHeartbeats 2000000 in
set_option maxRecDepth 100000 in
theorem lawHeldLetterSS (A : Option Addr) (hs : List Value) (ls : List (List Lt)) (n cap k T : Nat) (hT : ls.flatten.length = T) (hnn : n = hs.length) (hTm : T ≤ 1048576) (w : World) (hn : n ≤ 1048576) (hk0 : 1 ≤ k) (hk : k ≤ 4194304) (h : BinsRd w A hs (ssMks k ls)) :
    Calls Try.prog 47 #[.slice A n cap, .int .i64 k] w fun e w' => e = .returned (.int .i64 (k + 2 * T : Nat)) ∧ Below w.heap.size w w' := by
  have Hnn := Lib.hid hnn
  have HT := Lib.hid hT
  have HR := Lib.hid h
  have hl : hs.length = ls.length := by rw [h.len, ssMks_len]
  have Hl := Lib.hid hl
  clear h hnn hl hT
  go_enter Try.func47, Try.ntmps47
  go_wp2
  go_loopw [1, 5] (fun t i wr => ∃ j : Nat, j ≤ n ∧ i = .int .i64 j ∧ ∃ q : Nat, t = .int .i64 q ∧ q ≤ k + 2 * T ∧ k ≤ q ∧ Hid (q = k + 2 * (ls.take j).flatten.length) ∧ Hid (Below w.heap.size w wr)) (fun _ i _ => n - (intOf i).toNat)
  case atStart => exact ⟨0, Nat.zero_le _, rfl, k, rfl, by omega, Nat.le_refl _, by show _ = _; simp, Below.refl _ _⟩
  case round =>
    obtain ⟨j, hj, rfl, q, rfl, hq1, hq2, Hq, H⟩ := hrel
    by_cases hlt : j < n
    · obtain ⟨l, hlj⟩ : ∃ l, ls[j]? = some l := ⟨_, List.getElem?_eq_getElem (by have := Hl.out; have := Hnn.out; omega)⟩
      have e1 := ssMks_at k ls j l hlj
      rw [← Hq.out] at e1
      obtain ⟨A2, c2, hv, h1, -, h3⟩ := (HR.out.below H.out).inn j _ e1
      rw [ltMks_len'] at hv
      obtain ⟨ad, rfl, hab, c0⟩ := (HR.out.below H.out).out.one hv rfl
      have hFt : (ls.take (j + 1)).flatten.length = (ls.take j).flatten.length + l.length := by rw [flat_tk hlj, List.length_append]
      have hFl : (ls.take (j + 1)).flatten.length ≤ T := by rw [← HT.out]; exact flat_tk_len ls (j + 1)
      have hql : q + 2 * l.length ≤ k + 2 * T := by have := Hq.out; omega
      have hll : l.length ≤ 1048576 := by omega
      have Hq2 : Hid (q + 2 * l.length = k + 2 * (ls.take (j + 1)).flatten.length) := by show _ = _; have := Hq.out; omega
      have H3 := Lib.hid h3
      clear hlj hFt hFl hv e1 h3
      go_wp2_with fail
      refine (lawHeldLetterS A2 l.length c2 q _ (by omega) (by omega) (by omega) H3.out).mono ?_
      rintro e w2 ⟨rfl, hb⟩
      have H2 := Lib.hid (below_step H.out hb)
      clear hb
      go_wp2
      go_roundw
      case rel => exact ⟨j + 1, by omega, by go_num, q + 2 * l.length, by go_num, hql, by omega, Hq2.out, H2.out⟩
      case measure => simp [intOf]; omega
    · obtain rfl : j = n := by omega
      go_wp2
      go_ret
      have e1 := Hq.out
      have e2 := HT.out
      have hlj : ls.length ≤ j := by have := Hl.out; have := Hnn.out; omega
      rw [List.take_of_length_le hlj] at e1
      have e3 : q = k + 2 * T := by omega
      exact ⟨by rw [e3]; rfl, H.out⟩
end Go.Proofs.Ytkpigdohgmhlkaa
