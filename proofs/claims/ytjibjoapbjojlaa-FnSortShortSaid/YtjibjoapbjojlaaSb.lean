/-
  Letters sorted by their codes: the program's, at fewer than twenty letters.
-/
import Derived.Test.YtjibjoapbjojlaaSbL
import Derived.Test.YtjibjoapbjojlaaPsB
import Derived.Test.YtjibjoapbjojlaaSrt
import Derived.Test.YtjibjoapbjojlaaShelf
import Derived.Shelf.SlSortCmp.InsertionK
namespace Go.Proofs.Ytjibjoapbjojlaa
open Go.RowKit Go.Sort

set_option maxHeartbeats 1000000 in
set_option maxRecDepth 100000 in
theorem sortClosure (x y : Lt) (W : World) : Calls Try.prog 30 #[.agg #[.int .i64 x.1, .string x.2], .agg #[.int .i64 y.1, .string y.2]] W fun e w' => e = .returned (.int .i64 (ltCf x y)) ∧ ∃ q os', w' = grow (W.drewN q) os' := by
  have hcon := fun W' => Try.strings_Compare x.2 y.2 W'
  change ∀ W', Calls Try.prog 31 _ _ _ at hcon
  have Hr : Hid (ltCf x y = Lib.compareBytes x.2.data.toList y.2.data.toList) := rfl
  obtain ⟨r, hr⟩ : ∃ r, Lib.compareBytes x.2.data.toList y.2.data.toList = r := ⟨_, rfl⟩
  rw [hr] at hcon Hr
  clear hr
  go_enter Try.func30, Try.ntmps30
  go_wp2_with (go_at_call 31; refine (hcon _).mono ?_; rintro e w' ⟨rfl, rfl⟩)
  go_ret
  exact ⟨ret_int Hr.out.symm, 0, _, by rw [alloc_eq_grow, alloc_eq_grow, grow_grow]; rfl⟩

theorem insertLt (g n cap base : Nat) (l : List Lt) (w : World) (hn : n < 20) (h : Own w base 39 2 ltEnc (.slice (some ⟨g, 0, none⟩) n cap) l) :
    Calls Try.prog 40 #[.slice (some ⟨g, 0, none⟩) n cap, .int .i64 0, .int .i64 n, .func (.func 30) #[] #[]] w fun e w' => e = .returned (.tuple #[]) ∧ Own w' base 39 2 ltEnc (.slice (some ⟨g, 0, none⟩) n cap) (sortLt l) ∧ w.grownBy w' (some g) := by
  have hl := h.len
  have hg := (h.lt g rfl).2
  have eg : ∀ args w, (callFunc 30 args).run Try.prog w = .ok (.enter 30 args) w := enters_of Try.func30 (by kernel_rfl) rfl
  have hcmp : CmpLays Try.prog 30 #[] ltEnc 2 ltCf g 0 l.toArray.size w := fun _ _ _ _ x y => sortClosure x y _
  have hcon := Try.insertionSortCmpFunc 2 Try.isAgg39 Try.sizeOf39 ltEnc ltEnc_len ltEnc_one ltCf 30 #[] g 0 cap 0 n l.toArray w eg hcmp (holdsK_of_own (by decide) ltEnc_len h) hg (Nat.zero_le _) (by rw [List.size_toArray]; omega) (by rw [List.size_toArray]; omega)
  rw [List.size_toArray, ← hl] at hcon
  refine hcon.mono ?_
  rintro e w' ⟨rfl, q, os, rfl⟩
  have hs : (sortLt l).length = l.length := sortLt_len l
  obtain ⟨h1, h2⟩ := sorted_own (q := q) (os := os) (by decide) ltEnc_len h (l' := sortLt l) hs
  have e1 : insertionSort (ltOf ltCf) l.toArray 0 n = (sortLt l).toArray := by unfold sortLt; rw [hl]
  rw [e1]
  exact ⟨rfl, h1, h2⟩

set_option maxHeartbeats 1000000 in
set_option maxRecDepth 100000 in
theorem stableLt (g n cap base : Nat) (l : List Lt) (w : World) (hn : n < 20) (h : Own w base 39 2 ltEnc (.slice (some ⟨g, 0, none⟩) n cap) l) :
    Calls Try.prog 37 #[.slice (some ⟨g, 0, none⟩) n cap, .int .i64 n, .func (.func 30) #[] #[]] w fun e w' => e = .returned (.tuple #[]) ∧ Own w' base 39 2 ltEnc (.slice (some ⟨g, 0, none⟩) n cap) (sortLt l) ∧ w.grownBy w' (some g) := by
  have H := Lib.hid h
  have h1 : ¬ ((20 : Int) ≤ (n : Int)) := by omega
  have h2 : ¬ ((20 : Int) < (n : Int)) := by omega
  clear h
  go_enter Try.func37, Try.ntmps37
  go_wp2_with fail
  go_loopw [7, 8] (fun a b wr => a = .int .i64 0 ∧ b = .int .i64 20 ∧ wr = w) (fun _ _ _ => 0)
  case atStart => exact ⟨rfl, rfl, rfl⟩
  case round =>
    obtain ⟨rfl, rfl, rfl⟩ := hrel
    go_wp2_with fail
    refine (insertLt g n cap base l _ hn H.out).mono ?_
    rintro e w1 ⟨rfl, ho, hg⟩
    have HO := Lib.hid ho
    have HG := Lib.hid hg
    clear ho hg
    go_wp2_with fail
    go_loopw [6, 7, 8] (fun c a b wr => c = .int .i64 20 ∧ a = .int .i64 0 ∧ b = .int .i64 20 ∧ wr = w1) (fun _ _ _ _ => 0)
    case atStart => exact ⟨rfl, rfl, rfl, rfl⟩
    case round =>
      obtain ⟨rfl, rfl, rfl, rfl⟩ := hrel
      go_wp2
      go_end0
      exact ⟨rfl, HO.out, HG.out⟩

set_option maxHeartbeats 1000000 in
set_option maxRecDepth 100000 in
theorem sliceStableLt (g n cap base : Nat) (l : List Lt) (w : World) (hn : n < 20) (h : Own w base 39 2 ltEnc (.slice (some ⟨g, 0, none⟩) n cap) l) :
    Calls Try.prog 29 #[.slice (some ⟨g, 0, none⟩) n cap, .func (.func 30) #[] #[]] w fun e w' => e = .returned (.tuple #[]) ∧ Own w' base 39 2 ltEnc (.slice (some ⟨g, 0, none⟩) n cap) (sortLt l) ∧ w.grownBy w' (some g) := by
  have H := Lib.hid h
  clear h
  go_enter Try.func29, Try.ntmps29
  go_wp2_with fail
  refine (stableLt g n cap base l _ hn H.out).mono ?_
  rintro e w1 ⟨rfl, ho, hg⟩
  have HO := Lib.hid ho
  have HG := Lib.hid hg
  clear ho hg
  go_wp2
  go_end0
  exact ⟨rfl, HO.out, HG.out⟩

set_option maxHeartbeats 1000000 in
set_option maxRecDepth 100000 in
theorem implSortBatch (A : Option Addr) (l : List Lt) (n cap : Nat) (hl : n = l.length) (hcap : n ≤ cap) (w : World) (hn : n < 20) (hs : ∀ x ∈ l, x.2.size ≤ 1048576) (hok : batchOk l = true) (h : Rd w 2 ltEnc A l) :
    Calls Try.prog 20 #[.slice A n cap] w fun e w' => ∃ g, e = .returned (.tuple #[.slice (some ⟨g, 0, none⟩) n n, .bool true]) ∧ Own w' w.heap.size 39 2 ltEnc (.slice (some ⟨g, 0, none⟩) n n) (sortLt l) ∧ Below w.heap.size w w' := by
  have Hl := Lib.hid hl
  have Hr := Lib.hid h
  have Hs := Lib.hid hs
  have Hok := Lib.hid hok
  clear h hs hl hok
  go_enter Try.func20, Try.ntmps20
  go_wp2_with fail
  refine (implBatchValid A l n cap Hl.out hcap _ (by omega) Hs.out Hr.out).mono ?_
  rw [Hok.out]
  rintro e w1 ⟨rfl, hb⟩
  have H1 := Lib.hid (Pool.of_below hb)
  clear hb
  go_wp2_with fail
  refine (implCopyLetters A l n cap Hl.out _ (by omega) (Hr.out.below H1.out.below)).mono ?_
  rintro e w2 ⟨g, rfl, ho, hb⟩
  have H2 := Lib.hid (H1.out.addOwn hb ho)
  clear ho hb
  go_wp2_with fail
  refine (sliceStableLt g n n 0 l _ hn (H2.out.own 0 rfl)).mono ?_
  rintro e w3 ⟨rfl, ho, hg⟩
  have H3 : Hid (Pool w w3 [ownP 39 2 ltEnc (.slice (some ⟨g, 0, none⟩) n n) (sortLt l)]) := H2.out.turnOwn 0 rfl ho hg
  clear ho hg
  go_wp2
  go_ret2
  exact ⟨g, rfl, H3.out.res 0 rfl, H3.out.below⟩

set_option maxHeartbeats 1000000 in
set_option maxRecDepth 100000 in
theorem soSortedC (A : Option Addr) (l : List Lt) (n cap : Nat) (hl : n = l.length) (hcap : n ≤ cap) (w : World) (hn : n < 20) (hs : ∀ x ∈ l, x.2.size ≤ 1048576) (hok : batchOk l = true) (h : Rd w 2 ltEnc A l) :
    Calls Try.prog 11 #[.slice A n cap] w fun e w' => ∃ g, e = .returned (.slice (some ⟨g, 0, none⟩) n n) ∧ Own w' w.heap.size 39 2 ltEnc (.slice (some ⟨g, 0, none⟩) n n) (sortLt l) ∧ Below w.heap.size w w' := by
  have Hl := Lib.hid hl
  have Hr := Lib.hid h
  have Hs := Lib.hid hs
  have Hok := Lib.hid hok
  clear h hs hl hok
  go_enter Try.func11, Try.ntmps11
  go_wp2_with fail
  refine (implSortBatch A l n cap Hl.out hcap _ hn Hs.out Hok.out Hr.out).mono ?_
  rintro e w1 ⟨g, rfl, ho, hb⟩
  have HO := Lib.hid ho
  have HB := Lib.hid hb
  clear ho hb
  go_wp2
  go_ret
  exact ⟨g, rfl, HO.out, HB.out⟩
end Go.Proofs.Ytjibjoapbjojlaa
