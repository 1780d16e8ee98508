/-
  The text of a plan: the program's and the reference's.
-/
import Derived.Test.YtjibjoapbjojlaaDoorTx1
import Derived.Test.YtjibjoapbjojlaaDoorPlQ
import Derived.Test.YtjibjoapbjojlaaDoorPoolL
import Derived.Shelf.Strings.OnBuilder
import Derived.Shelf.Strconv.Itoa3
namespace Go.Proofs.YtjibjoapbjojlaaDoor
open Go.RowKit

theorem addr_add (g o j : Nat) : Addr.add ⟨g, o, none⟩ j = ⟨g, o + j, none⟩ := by cases j <;> simp [Addr.add]
theorem take_snoc {α : Type} {m : List α} {k : Nat} {x : α} (hx : m[k]? = some x) : m.take (k + 1) = m.take k ++ [x] := by
  rw [List.take_add_one, hx]; rfl
theorem decS_size {b : Int} (h0 : 0 ≤ b) (h1 : b < 100) : (decS b).size ≤ 2 := by
  obtain ⟨u, rfl⟩ := Int.eq_ofNat_of_zero_le h0
  rw [decS_nat, strOf_size]
  exact (dec_facts 1 u (by omega)).2.2.2.1
theorem joinL_codes {l : List Str} (h : cdsOk l = true) : (joinL l).size ≤ l.length * 8 := joinL_size_le l 7 (fun y hy => by rw [codeOk_size (cds_code h hy)]; omega)

set_option maxHeartbeats 4000000 in
set_option maxRecDepth 100000 in
theorem implFormatPlan (b p : Int) (A : Option Addr) (l : List Str) (n cap : Nat) (hl : n = l.length) (hcap : n ≤ cap) (hA : 0 < l.length → ∃ g o, A = some ⟨g, o, none⟩) (w : World) (hn : n ≤ 16777216) (hs : ∀ x ∈ l, x.size ≤ 1048576) (h : Rd w 1 strEnc A l) :
    Calls Tryd.prog 19 #[.agg #[.int .i64 b, .int .i64 p, .slice A n cap]] w fun e w' => e = .returned (.string (fmtP b p l)) ∧ Below w.heap.size w w' := by
  have Hl := Lib.hid hl
  have Hr := Lib.hid h
  have Hs := Lib.hid hs
  have HA := Lib.hid hA
  have HB : Hid (Pool w (w.alloc (Obj.cells #[.int .i64 b, .int .i64 p, .slice A n cap] 36)) [boxP w.heap.size (.int .i64 b) (.int .i64 p) (.slice A n cap)]) := (Pool.nil_ w).addBox rfl _ _ _ _
  clear h hs hl hA
  obtain ⟨-, c0, c1, c2, cz⟩ := HB.out.box 0 rfl
  cases hv : planOk b p l
  · have Hn : Hid (fmtP b p l = ByteArray.empty) := by show _ = _; unfold fmtP; rw [hv]; rfl
    go_enter Tryd.func19, Tryd.ntmps19
    go_wp2_with fail
    refine (implPlanValid b p A l n cap Hl.out hcap _ hn Hs.out (Hr.out.below HB.out.below)).mono ?_
    rw [hv]
    rintro e w1 ⟨rfl, hb⟩
    have H1 := Lib.hid (HB.out.step hb)
    clear hb
    go_wp2
    go_ret
    exact ⟨by rw [Hn.out]; rfl, H1.out.below⟩
  · have hp := planOk_parts hv
    obtain ⟨S0, hS0⟩ : ∃ S, decS b = S := ⟨_, rfl⟩
    obtain ⟨S1, hS1⟩ : ∃ S, decS p = S := ⟨_, rfl⟩
    obtain ⟨J, hJ⟩ : ∃ S, joinL l = S := ⟨_, rfl⟩
    have z0 : S0.size ≤ 2 := by rw [← hS0]; exact decS_size (by omega) (by omega)
    have z1 : S1.size ≤ 2 := by rw [← hS1]; exact decS_size (by omega) (by omega)
    have hjl := joinL_codes hp.2.2.2.2
    have z2 : J.size ≤ 480 := by rw [← hJ]; omega
    have Hn : Hid (fmtP b p l = S0 ++ (⟨#[32]⟩ : Str) ++ S1 ++ (⟨#[32]⟩ : Str) ++ J) := by show _ = _; unfold fmtP; rw [hv, if_pos rfl, hS0, hS1, hJ]; rfl
    obtain ⟨g, o, rfl⟩ := HA.out (by omega)
    have hnl := Hl.out
    subst hnl
    go_enter Tryd.func19, Tryd.ntmps19
    go_wp2_with fail
    refine (implPlanValid b p _ l _ cap rfl hcap _ hn Hs.out (Hr.out.below HB.out.below)).mono ?_
    rw [hv]
    rintro e w1 ⟨rfl, hb⟩
    have H1 := Lib.hid (HB.out.step hb)
    clear hb c0 c1 c2 cz
    obtain ⟨-, c0, c1, c2, cz⟩ := H1.out.box 0 rfl
    have f0 : ∀ b' : BW w1, b'.w.cell? ⟨w.heap.size, 0, none⟩ = some (.int .i64 b) := fun b' => b'.cell c0
    have f1 : ∀ b' : BW w1, b'.w.cell? ⟨w.heap.size, 1, none⟩ = some (.int .i64 p) := fun b' => b'.cell c1
    have f2 : ∀ b' : BW w1, b'.w.cell? ⟨w.heap.size, 2, none⟩ = some (.slice (some ⟨g, o, none⟩) l.length cap) := fun b' => b'.cell c2
    have K0 : Hid (∀ b' : BW w1, Calls Tryd.prog 44 #[.int .i64 b] b'.w fun e w' => e = .returned (.string S0) ∧ Below b'.w.heap.size b'.w w') := fun b' => by
      obtain ⟨u, hu⟩ := Int.eq_ofNat_of_zero_le (show 0 ≤ b by omega)
      rw [← hS0, hu, decS_nat]
      exact (Tryd.strconv_Itoa_small u (by omega) b'.w).mono fun _ _ ⟨he, hw⟩ => ⟨he, hw ▸ Below.refl _ _⟩
    have K1 : Hid (∀ b' : BW w1, Calls Tryd.prog 44 #[.int .i64 p] b'.w fun e w' => e = .returned (.string S1) ∧ Below b'.w.heap.size b'.w w') := fun b' => by
      obtain ⟨u, hu⟩ := Int.eq_ofNat_of_zero_le (show 0 ≤ p by omega)
      rw [← hS1, hu, decS_nat]
      exact (Tryd.strconv_Itoa_small u (by omega) b'.w).mono fun _ _ ⟨he, hw⟩ => ⟨he, hw ▸ Below.refl _ _⟩
    have K2 : Hid (∀ b' : BW w1, Calls Tryd.prog 45 #[.slice (some ⟨g, o, none⟩) l.length cap, .string (⟨#[32]⟩ : Str)] b'.w fun e w' => e = .returned (.string J) ∧ Below b'.w.heap.size b'.w w') := fun b' => by
      have hrd := b'.rd (Hr.out.below H1.out.below)
      obtain ⟨ad, had, hab, hc⟩ := hrd (by omega)
      injection had with had
      subst had
      have hj := joinL_data l
      have h3 : (joinL l).data.toList.length = (joinL l).size := rfl
      have := Tryd.strings_Join g o cap l (⟨#[32]⟩ : Str) b'.w (fun j x hx => by
        have := hc j x hx 0 _ rfl
        rw [Nat.mul_one, Nat.add_zero, addr_add] at this
        exact this) hab (by omega) hcap (by
          rw [show (⟨#[32]⟩ : Str).data.toList = [32] from rfl, ← hj, h3]; omega)
      rw [← hJ]
      exact this
    clear hv hp hS0 hS1 hJ hjl c0 c1 c2 cz
    go_wp2_with fail
    refine wp_region_bw w1 (Below.refl _ _) (by kernel_rfl) (by kernel_rfl) ?_
    repeat (go_big_quiet_step ((first
      | (go_at_call 45; with_reducible exact calls_bw (K2.out _))
      | (go_at_call 44; with_reducible exact calls_bw (K0.out _))
      | (go_at_call 44; with_reducible exact calls_bw (K1.out _)))))
    refine wpQuiet_nil ?_
    rintro _ ⟨bw, rfl⟩
    have H2 := Lib.hid (H1.out.step bw.h)
    generalize bw.w = w2 at *
    go_wp2
    go_ret
    exact ⟨by rw [Hn.out]; rfl, H2.out.below⟩

set_option maxHeartbeats 4000000 in
set_option maxRecDepth 100000 in
theorem specFormatPlan (b p : Int) (A : Option Addr) (l : List Str) (n cap : Nat) (hl : n = l.length) (w : World) (hn : n ≤ 16777216) (hs : ∀ x ∈ l, x.size ≤ 1048576) (h : Rd w 1 strEnc A l) :
    Calls Tryd.prog 20 #[.agg #[.int .i64 b, .int .i64 p, .slice A n cap]] w fun e w' => e = .returned (.string (fmtP b p l)) ∧ Below w.heap.size w w' := by
  have Hl := Lib.hid hl
  have Hr := Lib.hid h
  have Hs := Lib.hid hs
  have HB : Hid (Pool w (w.alloc (Obj.cells #[.int .i64 b, .int .i64 p, .slice A n cap] 36)) [boxP w.heap.size (.int .i64 b) (.int .i64 p) (.slice A n cap)]) := (Pool.nil_ w).addBox rfl _ _ _ _
  clear h hs hl
  obtain ⟨-, c0, c1, c2, cz⟩ := HB.out.box 0 rfl
  cases hv : planOk b p l
  · have Hn : Hid (fmtP b p l = ByteArray.empty) := by show _ = _; unfold fmtP; rw [hv]; rfl
    go_enter Tryd.func20, Tryd.ntmps20
    go_wp2_with fail
    refine (specPlanValid b p A l n cap Hl.out _ hn Hs.out (Hr.out.below HB.out.below)).mono ?_
    rw [hv]
    rintro e w1 ⟨rfl, hb⟩
    have H1 := Lib.hid (HB.out.step hb)
    clear hb
    go_wp2
    go_ret
    exact ⟨by rw [Hn.out]; rfl, H1.out.below⟩
  · have hp := planOk_parts hv
    obtain ⟨S0, hS0⟩ : ∃ S, decS b = S := ⟨_, rfl⟩
    obtain ⟨S1, hS1⟩ : ∃ S, decS p = S := ⟨_, rfl⟩
    have z0 : S0.size ≤ 2 := by rw [← hS0]; exact decS_size (by omega) (by omega)
    have z1 : S1.size ≤ 2 := by rw [← hS1]; exact decS_size (by omega) (by omega)
    have Hn : Hid (fmtP b p l = S0 ++ (⟨#[32]⟩ : Str) ++ S1 ++ (⟨#[32]⟩ : Str) ++ joinL l) := by show _ = _; unfold fmtP; rw [hv, if_pos rfl, hS0, hS1]; rfl
    have Hc : Hid (∀ x ∈ l, x.size = 7) := fun x hx => codeOk_size (cds_code hp.2.2.2.2 hx)
    have hn60 : n ≤ 60 := by rw [Hl.out]; exact hp.2.2.1.2
    have hn1 : 1 ≤ n := by rw [Hl.out]; exact hp.2.2.1.1
    have K0 : Hid (∀ w2, Calls Tryd.prog 47 #[.int .i64 b] w2 fun e w' => e = .returned (.string S0) ∧ Below w2.heap.size w2 w') := fun w2 => by
      obtain ⟨u, hu⟩ := Int.eq_ofNat_of_zero_le (show 0 ≤ b by omega)
      rw [← hS0, hu]
      exact specDec u (by omega) w2
    have K1 : Hid (∀ w2, Calls Tryd.prog 47 #[.int .i64 p] w2 fun e w' => e = .returned (.string S1) ∧ Below w2.heap.size w2 w') := fun w2 => by
      obtain ⟨u, hu⟩ := Int.eq_ofNat_of_zero_le (show 0 ≤ p by omega)
      rw [← hS1, hu]
      exact specDec u (by omega) w2
    go_enter Tryd.func20, Tryd.ntmps20
    go_wp2_with fail
    refine (specPlanValid b p A l n cap Hl.out _ hn Hs.out (Hr.out.below HB.out.below)).mono ?_
    rw [hv]
    rintro e w1 ⟨rfl, hb⟩
    have H1 := Lib.hid (HB.out.step hb)
    clear hb c0 c1 c2 cz hv hp hS0 hS1
    obtain ⟨-, c0, c1, c2, cz⟩ := H1.out.box 0 rfl
    have f0 : ∀ b' : BW w1, b'.w.cell? ⟨w.heap.size, 0, none⟩ = some (.int .i64 b) := fun b' => b'.cell c0
    have f1 : ∀ b' : BW w1, b'.w.cell? ⟨w.heap.size, 1, none⟩ = some (.int .i64 p) := fun b' => b'.cell c1
    clear c0 c1 c2 cz
    go_wp2_with fail
    refine wp_region_bw w1 (Below.refl _ _) (by kernel_rfl) (by kernel_rfl) ?_
    repeat (go_big_quiet_step ((first
      | (go_at_call 47; with_reducible exact calls_bw (K0.out _))
      | (go_at_call 47; with_reducible exact calls_bw (K1.out _)))))
    refine wpQuiet_nil ?_
    rintro _ ⟨bw, rfl⟩
    have H2 := Lib.hid (H1.out.step bw.h)
    clear f0 f1 K0 K1 H1
    generalize bw.w = w2 at *
    obtain ⟨X, hX⟩ : ∃ X, S0 ++ (⟨#[32]⟩ : Str) ++ S1 = X := ⟨_, rfl⟩
    have zX : X.size ≤ 5 := by rw [← hX, ByteArray.size_append, ByteArray.size_append, show (⟨#[32]⟩ : Str).size = 1 from rfl]; omega
    have HX := Lib.hid hX
    go_wp2_with fail
    go_loopw [3, 4] (fun o i wr => ∃ (k : Nat) (out : Str), k ≤ n ∧ i = .int .i64 k ∧ o = .string out ∧ out.size ≤ 5 + 8 * k ∧ Hid (out = if k = 0 then X else X ++ (⟨#[32]⟩ : Str) ++ joinL (l.take k)) ∧ Hid (Pool w wr [boxP w.heap.size (.int .i64 b) (.int .i64 p) (.slice A n cap)])) (fun _ i _ => n - (intOf i).toNat)
    case atStart => exact ⟨0, X, Nat.zero_le _, rfl, by rw [← hX], by omega, by rw [if_pos rfl]; exact Lib.hid rfl, H2.out⟩
    case round =>
      clear H2 hX
      obtain ⟨k, out, hk, rfl, rfl, hsz, Hout, H⟩ := hrel
      obtain ⟨-, c0, c1, c2, cz⟩ := H.out.box 0 rfl
      by_cases hlt : k < n
      · obtain ⟨x, hx⟩ : ∃ x, l[k]? = some x := ⟨_, List.getElem?_eq_getElem (by have := Hl.out; omega)⟩
        have hx7 := Hc.out x (List.mem_of_getElem? hx)
        obtain ⟨ad, rfl, hab, e0⟩ := (Hr.out.below H.out.below).one hx rfl
        have Hnext : Hid (out ++ (⟨#[32]⟩ : Str) ++ x = (if k + 1 = 0 then X else X ++ (⟨#[32]⟩ : Str) ++ joinL (l.take (k + 1)))) := by
          show _ = _
          rw [if_neg (by omega), Hout.out, take_snoc hx]
          by_cases h0 : k = 0
          · subst h0
            rw [if_pos rfl, List.take_zero, List.nil_append, joinL_one]
          · rw [if_neg h0, joinL_push _ (by intro e; have := congrArg List.length e; rw [List.length_take, ← Hl.out] at this; have t : min k n = 0 := this; omega)]
            refine str_eq' ?_
            simp [cSp, List.append_assoc]
        have hsz2 : (out ++ (⟨#[32]⟩ : Str) ++ x).size ≤ 5 + 8 * (k + 1) := by rw [ByteArray.size_append, ByteArray.size_append, show (⟨#[32]⟩ : Str).size = 1 from rfl]; omega
        clear hx
        go_wp2
        go_roundw
        case rel => exact ⟨k + 1, _, by omega, by go_num, rfl, hsz2, Hnext.out, H.out⟩
        case measure => simp [intOf]; omega
      · obtain rfl : k = n := by omega
        have hfin : out = fmtP b p l := by
          rw [Hn.out, Hout.out, if_neg (by omega), List.take_of_length_le (by rw [← Hl.out]; exact Nat.le_refl _), HX.out]
        have Hf := Lib.hid hfin
        clear hfin
        go_wp2
        go_ret
        exact ⟨by rw [← Hf.out]; rfl, H.out.below⟩
end Go.Proofs.YtjibjoapbjojlaaDoor
