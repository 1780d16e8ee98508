/-
  A range over a function whose iterator keeps a state of its own in memory: the statement's law over a Pool. No function of the program is named here.
  strings.SplitSeq at a space: the iterator's word over a Pool.
-/
import Derived.Test.YtjibjoapbjojlaaDoorPool
import Derived.Test.YtjibjoapbjojlaaDoorFwM
import Derived.RangeFuncNested
import Derived.RangeFuncBound
import Derived.RangeFuncCalls
import Derived.RangeFuncLeaves
import Derived.Test.YtjibjoapbjojlaaDoorTx2
import Derived.Shelf.Abstract
import Derived.Shelf.RegionOpen
import Derived.OwnWalkIn
import Derived.TacticsInMore
import Derived.LoopNIn
import Derived.LoopIn
namespace Go.Proofs.YtjibjoapbjojlaaDoor

section
open Go.RowKit

/-- A block that holds an object. -/
def objP (b : Nat) (o : Obj) : Piece := ⟨[b], fun w => w.heap[b]? = some o, fun _ _ _ hk h => (hk b (by simp)).trans h⟩
section
variable {w0 w : World} {ps : List Piece} {b : Nat} {o : Obj}
theorem Pool.obj (h : Pool w0 w ps) (i : Nat) (hi : ps[i]? = some (objP b o)) : w.heap[b]? = some o := h.get i hi
theorem Pool.obj_lt (h : Pool w0 w ps) (i : Nat) (hi : ps[i]? = some (objP b o)) : w0.heap.size ≤ b ∧ b < w.heap.size := (h.all _ (List.mem_of_getElem? hi)).2 b (by simp [objP])
theorem Pool.addObj (h : Pool w0 w ps) (o : Obj) : Pool w0 (w.alloc o) (objP w.heap.size o :: ps) :=
  h.add ((Below.refl _ _).alloc (Nat.le_refl _) o) _ (World.alloc_heap_new w o) (fun k hk => by
    have hk : k ∈ [w.heap.size] := hk
    have := List.mem_singleton.1 hk
    subst this
    exact ⟨Nat.le_refl _, by simp⟩)
theorem Pool.put (h : Pool w0 w ps) (i : Nat) (hi : ps[i]? = some (objP b o)) (o' : Obj) : Pool w0 (w.putObj b o') (ps.set i (objP b o')) := by
  have hlt := h.obj_lt i hi
  refine h.turn i hi (fun k hk => ⟨.inl hk, ?_⟩) (World.putObj_heap_same hlt.2) rfl rfl rfl (by simp) (fun k hk hm => World.putObj_heap_other (fun e => hm (by simp [objP, e])))
  have hk : k ∈ [b] := hk
  have := List.mem_singleton.1 hk
  subst this
  simp; exact hlt.2

end

/-- How the body of a round may be left. -/
def rndPost (w0 : World) (cs : List Piece) (I : List Piece → Prop) (Ix : Code → List Piece → Prop) : Exit → Act → World → Prop
  | .normal, _, W => ∃ qs, I qs ∧ Pool w0 W (qs ++ cs)
  | .ret, _, W => ∃ qs, Ix .ret qs ∧ Pool w0 W (qs ++ cs)
  | .exit id, _, W => ∃ qs, Ix (.exit id) qs ∧ Pool w0 W (qs ++ cs)
  | .goto t, _, W => ∃ qs, Ix (.goto t) qs ∧ Pool w0 W (qs ++ cs)
  | .panic _, _, _ => False
  | .outgrown, _, _ => False

/-- The word of an iterator over the parts xs, whose state is the piece 'it k' when k parts have come. -/
def Iter (F : Fence) (n : Nat) (P : Program) (gf : Nat) (lb : Array Value) (w0 : World) (xs : List Str) (it : Nat → Piece) : Prop :=
  ∀ (l : Nat) (R : Nat → List Piece → Prop) (Rx : List Piece → Prop) (W : World) (ps : List Piece),
    (∀ k x W1 ps, xs[k]? = some x → R k ps → Pool w0 W1 (it k :: ps) → YieldAt F (n - 1) P l #[.string x] W1 fun e W' =>
      (e = .returned (.bool true) ∧ ∃ ps', R (k + 1) ps' ∧ Pool w0 W' (it k :: ps')) ∨ (e = .returned (.bool false) ∧ ∃ ps', Rx ps' ∧ Pool w0 W' (it k :: ps'))) →
    R 0 ps → Pool w0 W (it 0 :: ps) →
    CallsIn F n P gf (#[.func (.yield l) #[] #[]] ++ lb) W fun e W' => (∃ v, e = .returned v) ∧ ∃ k ps', (R xs.length ps' ∨ Rx ps') ∧ Pool w0 W' (it k :: ps')

theorem three_perm (a b c : Piece) (qs : List Piece) : (a :: b :: c :: qs).Perm (qs ++ [a, b, c]) := (List.perm_append_comm (l₁ := [a, b, c]) (l₂ := qs))

variable {F : Fence} {n : Nat} {P : Program}
theorem wpIn_rangeIter {g : Operand} {t : Tmp} {assign body : Code} {Q : Exit → Act → World → Prop} {a : Act} {w : World}
    (hro : F.round = none) (h1 : 1 ≤ n) {gf : Nat} {lb : Array Value} (hg : a.eval g = .func (.func gf) #[] lb) (hFg : F.fn gf) (eg : ∀ args w, (callFunc gf args).run P w = .ok (.enter gf args) w)
    {w0 : World} {xs : List Str} {it : Nat → Piece} (hit : Iter F (n - 1) P gf lb w0 xs it)
    (I : Nat → List Piece → Prop) (Ix : Code → List Piece → Prop) {qs0 : List Piece} (h0 : I 0 qs0) (H : Pool w0 w (it 0 :: qs0)) (a₁ : Str → Act)
    (hassign : ∀ (l : Nat) (x : Str) (W : World) (K : Act → World → Prop), K (a₁ x) W →
      assign.wpIn (F.inRound l) (n - 1 - 1) P (Exit.then K (fun _ _ _ => False)) { tmps := ((#[t] : Array Tmp).zip #[Value.string x]).foldl (fun t (p, v) => t.setIfInBounds p v) a.tmps, defers := [] } W)
    (hbody : ∀ (l k : Nat) (x : Str) (W : World) (qs cs : List Piece), xs[k]? = some x → I k qs → Pool w0 W (qs ++ cs) →
      body.wpIn (F.inRound l) (n - 1 - 1) P (rndPost w0 cs (I (k + 1)) Ix) (a₁ x) W)
    (hdone : ∀ (D k : Nat) (W : World) (qs : List Piece), I xs.length qs → Pool w0 W (it k :: objP D (.deferred (some [])) :: qs) → Q .normal { a with defers := { target := .collected D, args := #[] } :: a.defers } W)
    (hstop : ∀ (D k : Nat) (c : Code) (W : World) (qs : List Piece), Ix c qs → Pool w0 W (it k :: objP D (.deferred (some [])) :: qs) → c.wpIn F n P Q { a with defers := { target := .collected D, args := #[] } :: a.defers } W) :
    (Code.rangeFunc g #[t] assign body).wpIn F n P Q a w := by
  refine wpIn_rangeFunc ?_
  intro fn hfn
  rw [hro]
  obtain ⟨D, hD⟩ : ∃ D, w.heap.size = D := ⟨_, rfl⟩
  obtain ⟨rec, hrec⟩ : ∃ rec : LoopState → Option Code → Loop, rec = fun st pe => { state := st, pending := pe, fn, tmps := a.tmps, params := #[t], assign, body, defers := D } := ⟨_, rfl⟩
  have H1 := (H.addObj (.deferred (some []))).addObj (.loop (rec .ready none))
  rw [World.size_alloc, hD] at H1
  have H1 : Pool w0 ((w.alloc (.deferred (some []))).alloc (.loop (rec .ready none))) (it 0 :: objP (D + 1) (.loop (rec .ready none)) :: objP D (.deferred (some [])) :: qs0) :=
    H1.perm ((List.Perm.cons _ (List.Perm.swap _ _ _)).trans (List.Perm.swap _ _ _))
  obtain ⟨W1, hW1⟩ : ∃ W1, (w.alloc (.deferred (some []))).alloc (.loop (rec .ready none)) = W1 := ⟨_, rfl⟩
  rw [hW1] at H1
  refine ⟨D + 1, [{ target := .collected D, args := #[] }], W1, { target := .fn (.func gf) lb, args := #[.func (.yield (D + 1)) #[] #[]] }, W1, gf,
    #[.func (.yield (D + 1)) #[] #[]] ++ lb, W1, ?_, ?_, ?_, ?_, fun _ => h1, ?_⟩
  · rw [← hW1, hrec, ← hD]; exact run_enterLoop_outer _ _ _ _ _
  · simp only [resolve, hg]
    simp [go_sem]
  · intro f' hf'; simp [Target.leads] at hf'; subst hf'; exact hFg
  · simp [invoke, go_sem, eg]
  refine (hit (D + 1)
    (fun k ps => ∃ qs, I k qs ∧ ps = objP (D + 1) (.loop (rec .ready none)) :: objP D (.deferred (some [])) :: qs)
    (fun ps => ∃ c qs, Ix c qs ∧ ps = objP (D + 1) (.loop (rec .done (some c))) :: objP D (.deferred (some [])) :: qs)
    W1 _ ?_ ⟨qs0, h0, rfl⟩ H1).mono ?_
  · rintro k x W ps hx ⟨qs, hi, rfl⟩ HP
    have hl := HP.obj 1 rfl
    have hy := run_yield (P := P) (args := #[.string x]) hl (by rw [hrec]; rfl)
    rw [hrec] at hy
    refine ⟨fn, _, assign, body, hy, roundIn_of_wpIn hfn (hassign _ x W _ ⟨_, run_beginRound hl (by rw [hrec]), ?_⟩)⟩
    have HB : Pool w0 (W.putObj (D + 1) (.loop { rec .ready none with state := .busy })) (it k :: objP (D + 1) (.loop { rec .ready none with state := .busy }) :: objP D (.deferred (some [])) :: qs) := HP.put 1 rfl _
    refine wpIn_mono (hbody _ k x _ qs _ hx hi (HB.perm (three_perm _ _ _ _))) ?_
    have fin : ∀ (jump : Option Code) (W3 : World) (qs' : List Piece), Pool w0 W3 (qs' ++ [it k, objP (D + 1) (.loop { rec .ready none with state := .busy }), objP D (.deferred (some []))]) →
        (Instr.endRound (D + 1) jump).run P W3 = .ok (.bool jump.isNone) (W3.putObj (D + 1) (.loop (rec (if jump.isNone then .ready else .done) jump))) ∧
        Pool w0 (W3.putObj (D + 1) (.loop (rec (if jump.isNone then .ready else .done) jump))) (it k :: objP (D + 1) (.loop (rec (if jump.isNone then .ready else .done) jump)) :: objP D (.deferred (some [])) :: qs') := fun jump W3 qs' h3 => by
      have h3 := h3.perm (three_perm _ _ _ _).symm
      have hr := run_endRound (P := P) jump (h3.obj 1 rfl)
      have hp := h3.put 1 rfl (.loop (rec (if jump.isNone then .ready else .done) jump))
      rw [hrec] at hr hp ⊢
      exact ⟨hr, hp⟩
    rintro e a3 W3 hp
    cases e with
    | normal =>
      obtain ⟨qs', hi', h3⟩ := hp
      obtain ⟨hr, h4⟩ := fin none W3 qs' h3
      exact ⟨_, _, hr, .inl ⟨rfl, _, ⟨qs', hi', rfl⟩, h4⟩⟩
    | ret =>
      obtain ⟨qs', hi', h3⟩ := hp
      obtain ⟨hr, h4⟩ := fin (some .ret) W3 qs' h3
      exact ⟨_, _, hr, .inr ⟨rfl, _, ⟨.ret, qs', hi', rfl⟩, h4⟩⟩
    | exit id =>
      obtain ⟨qs', hi', h3⟩ := hp
      obtain ⟨hr, h4⟩ := fin (some (.exit id)) W3 qs' h3
      exact ⟨_, _, hr, .inr ⟨rfl, _, ⟨.exit id, qs', hi', rfl⟩, h4⟩⟩
    | goto t =>
      obtain ⟨qs', hi', h3⟩ := hp
      obtain ⟨hr, h4⟩ := fin (some (.goto t)) W3 qs' h3
      exact ⟨_, _, hr, .inr ⟨rfl, _, ⟨.goto t, qs', hi', rfl⟩, h4⟩⟩
    | panic ch => exact hp.elim
    | outgrown => exact hp.elim
  · rintro e W2 ⟨⟨v, rfl⟩, k, ps', hR, HP⟩
    rcases hR with ⟨qs, hi, rfl⟩ | ⟨c, qs, hi, rfl⟩
    · have hr := run_endLoop (P := P) (HP.obj 1 rfl) (by rw [hrec]; simp)
      have hp : Pool w0 (W2.putObj (D + 1) (.loop { rec .ready none with state := .exhausted })) (it k :: objP (D + 1) (.loop { rec .ready none with state := .exhausted }) :: objP D (.deferred (some [])) :: qs) := HP.put 1 rfl _
      rw [hrec] at hr hp
      exact ⟨none, _, hr, hdone D k _ qs hi (hp.drop 1)⟩
    · have hr := run_endLoop (P := P) (HP.obj 1 rfl) (by rw [hrec]; simp)
      have hp : Pool w0 (W2.putObj (D + 1) (.loop { rec .done (some c) with state := .exhausted })) (it k :: objP (D + 1) (.loop { rec .done (some c) with state := .exhausted }) :: objP D (.deferred (some [])) :: qs) := HP.put 1 rfl _
      rw [hrec] at hr hp
      exact ⟨some c, _, hr, hstop D k c _ qs hi (hp.drop 1)⟩

end

section
open Go.RowKit Go.Shelf
attribute [local go_sem] Oper.semAt_some

theorem parts_hit {x : Str} (h : 0 ≤ findB 32 x) : parts x = befB 32 x :: parts (aftB 32 x) := by
  unfold parts
  rw [cut_data h, cutL_hit _ (bef_clean h), List.map_cons, strOf_self]
theorem parts_miss {x : Str} (h : findB 32 x < 0) : parts x = [x] := by
  unfold parts
  rw [cutL_miss (find_miss h), List.map_cons, List.map_nil, strOf_self]
/-- What is left of a text when k parts have come. -/
def restN (s : Str) : Nat → Str
  | 0 => s
  | k + 1 => aftB 32 (restN s k)
theorem restN_parts {s : Str} : ∀ {k : Nat}, k < (parts s).length → parts (restN s k) = (parts s).drop k
  | 0, _ => rfl
  | k + 1, h => by
    have ih := restN_parts (s := s) (k := k) (by omega)
    have hf : 0 ≤ findB 32 (restN s k) := Decidable.byContradiction fun e => by
      have h2 := parts_miss (x := restN s k) (by omega)
      rw [h2] at ih
      have := congrArg List.length ih
      rw [List.length_drop] at this
      simp at this; omega
    rw [parts_hit hf] at ih
    have := congrArg List.tail ih
    rw [List.tail_cons, List.tail_drop] at this
    exact this
theorem aft_size {x : Str} (h : 0 ≤ findB 32 x) : (aftB 32 x).size < x.size := by
  have := findB_lt h
  unfold aftB
  rw [ByteArray.size_extract]; omega
theorem restN_size {s : Str} : ∀ k, (restN s k).size ≤ s.size
  | 0 => Nat.le_refl _
  | k + 1 => by
    have ih := restN_size (s := s) k
    show (aftB 32 (restN s k)).size ≤ _
    unfold aftB
    rw [ByteArray.size_extract]; omega
/-- The iterator's three boxes. -/
def spP (g : Nat) (x : Str) : Piece :=
  ⟨[g, g + 1, g + 2], fun w => (w.cell? ⟨g, 0, none⟩ = some (.string x) ∧ w.frozen? ⟨g, 0, none⟩ = false) ∧ w.cell? ⟨g + 1, 0, none⟩ = some (.string (⟨#[32]⟩ : Str)) ∧ w.cell? ⟨g + 2, 0, none⟩ = some (.int .i64 0), fun w w' _ hk h =>
    ⟨⟨(World.cell?_of_block (a := ⟨g, 0, none⟩) (hk g (by simp))).trans h.1.1, (World.frozen?_of_block (a := ⟨g, 0, none⟩) (hk g (by simp))).trans h.1.2⟩, (World.cell?_of_block (a := ⟨g + 1, 0, none⟩) (hk (g + 1) (by simp))).trans h.2.1, (World.cell?_of_block (a := ⟨g + 2, 0, none⟩) (hk (g + 2) (by simp))).trans h.2.2⟩⟩
section
variable {w0 w : World} {ps : List Piece} {g : Nat} {x : Str}
theorem Pool.sp (h : Pool w0 w (spP g x :: ps)) : (w.cell? ⟨g, 0, none⟩ = some (.string x) ∧ w.frozen? ⟨g, 0, none⟩ = false) ∧ w.cell? ⟨g + 1, 0, none⟩ = some (.string (⟨#[32]⟩ : Str)) ∧ w.cell? ⟨g + 2, 0, none⟩ = some (.int .i64 0) := h.get 0 rfl
theorem Pool.setSp (h : Pool w0 w (spP g x :: ps)) (y : Str) : Pool w0 (w.setCell ⟨g, 0, none⟩ (.string y)) (spP g y :: ps) := by
  have hs := h.sp
  have hlt := (h.all _ (List.mem_cons_self)).2
  have g1 := grown_setCell (World.grownBy.refl w (some g)) (p := ⟨g, 0, none⟩) (.inl rfl) (Value.string y)
  refine h.turn 0 rfl (fun k hk => ⟨.inl hk, Nat.lt_of_lt_of_le (hlt k hk).2 g1.size⟩) ⟨⟨World.cell?_setCell_same _ _ _ hs.1.1, by rw [World.frozen?_setCell]; exact hs.1.2⟩, ?_, ?_⟩ g1.os g1.tape g1.output g1.size (fun k hk hm => g1.block k hk (by intro e; injection e with e; subst e; exact hm (by simp [spP])))
  · rw [World.cell?_setCell_other _ _ _ _ (by simp)]; exact hs.2.1
  · rw [World.cell?_setCell_other _ _ _ _ (by simp)]; exact hs.2.2
theorem Pool.addSp (h : Pool w0 w ps) (s : Str) (t t' : TypeId) (hg : w.heap.size = g) : Pool w0 (((w.alloc (.cells #[.string s] t)).alloc (.cells #[.string (⟨#[32]⟩ : Str)] t)).alloc (.cells #[.int .i64 0] t')) (spP g s :: ps) := by
  subst hg
  have e0 : (((w.alloc (.cells #[.string s] t)).alloc (.cells #[.string (⟨#[32]⟩ : Str)] t)).alloc (.cells #[.int .i64 0] t')).heap[w.heap.size]? = some (.cells #[.string s] t (0, 0)) := (Below.heap_alloc _ _ _ (by simp; omega)).trans ((Below.heap_alloc _ _ _ (by simp)).trans (World.alloc_heap_new w _))
  have e1 : (((w.alloc (.cells #[.string s] t)).alloc (.cells #[.string (⟨#[32]⟩ : Str)] t)).alloc (.cells #[.int .i64 0] t')).heap[w.heap.size + 1]? = some (.cells #[.string (⟨#[32]⟩ : Str)] t (0, 0)) := (Below.heap_alloc _ _ _ (by simp)).trans (by
    have := World.alloc_heap_new (w.alloc (.cells #[.string s] t)) (.cells #[.string (⟨#[32]⟩ : Str)] t)
    rwa [World.size_alloc] at this)
  have e2 : (((w.alloc (.cells #[.string s] t)).alloc (.cells #[.string (⟨#[32]⟩ : Str)] t)).alloc (.cells #[.int .i64 0] t')).heap[w.heap.size + 2]? = some (.cells #[.int .i64 0] t' (0, 0)) := by
    have := World.alloc_heap_new ((w.alloc (.cells #[.string s] t)).alloc (.cells #[.string (⟨#[32]⟩ : Str)] t)) (.cells #[.int .i64 0] t')
    rwa [World.size_alloc, World.size_alloc] at this
  refine h.add ((((Below.refl _ _).alloc (Nat.le_refl _) _).alloc (by simp) _).alloc (by simp; omega) _) (spP w.heap.size s) ⟨⟨?_, ?_⟩, ?_, ?_⟩ (fun k hk => ?_)
  · exact (cells_of_heap e0 0).1
  · exact (cells_of_heap e0 0).2
  · exact (cells_of_heap e1 0).1
  · exact (cells_of_heap e2 0).1
  · have hk : k ∈ [w.heap.size, w.heap.size + 1, w.heap.size + 2] := hk
    simp at hk
    simp; omega

end

set_option maxHeartbeats 1000000 in
set_option maxRecDepth 100000 in
theorem splitSeqC (s : Str) (w : World) :
    Calls Tryd.prog 37 #[.string s, .string (⟨#[32]⟩ : Str)] w fun e w' => e = .returned (.func (.func 91) #[] #[.pointer (some ⟨w.heap.size + 1, 0, none⟩), .pointer (some ⟨w.heap.size, 0, none⟩), .pointer (some ⟨w.heap.size + 2, 0, none⟩)]) ∧ w' = (((w.alloc (.cells #[.string s] 9)).alloc (.cells #[.string (⟨#[32]⟩ : Str)] 9)).alloc (.cells #[.int .i64 0] 3)) := by
  have K : Calls Tryd.prog 66 #[.string s, .string (⟨#[32]⟩ : Str), .int .i64 0] w fun e w' => e = .returned (.func (.func 91) #[] #[.pointer (some ⟨w.heap.size + 1, 0, none⟩), .pointer (some ⟨w.heap.size, 0, none⟩), .pointer (some ⟨w.heap.size + 2, 0, none⟩)]) ∧ w' = (((w.alloc (.cells #[.string s] 9)).alloc (.cells #[.string (⟨#[32]⟩ : Str)] 9)).alloc (.cells #[.int .i64 0] 3)) := by
    go_enter Tryd.func66, Tryd.ntmps66
    go_wp2
    go_ret
    exact ⟨rfl, rfl⟩
  have K := Lib.hid K
  go_enter Tryd.func37, Tryd.ntmps37
  go_wp2_with fail
  refine K.out.mono ?_
  rintro e w' ⟨rfl, rfl⟩
  go_wp2
  go_ret
  exact ⟨rfl, rfl⟩

def cellLen (w : World) (a : Addr) : Nat := match w.cell? a with
  | some (.string x) => x.size
  | _ => 0
theorem cellLen_eq {w : World} {a : Addr} {x : Str} (h : w.cell? a = some (.string x)) : cellLen w a = x.size := by unfold cellLen; rw [h]

set_option maxHeartbeats 4000000 in
set_option maxRecDepth 100000 in
theorem splitIter (n : Nat) (hn : 1 ≤ n) (s : Str) (hs : s.size ≤ 1048576) (w0 : World) (g : Nat) :
    Iter Fence.wide n Tryd.prog 91 #[.pointer (some ⟨g + 1, 0, none⟩), .pointer (some ⟨g, 0, none⟩), .pointer (some ⟨g + 2, 0, none⟩)] w0 (parts s) (fun k => spP g (restN s k)) := by
  intro l R Rx W ps hY h0 H
  have hro : Fence.wide.round = none := rfl
  have hF : Fence.wide.fn 91 := trivial
  have HY := Lib.hid hY
  have H := Lib.hid H
  have H0 := Lib.hid h0
  clear hY h0
  refine callsIn_of_wp Tryd.func91 rfl hF ?_ hro
  simp only [Tryd.ntmps91, List.size_toArray, List.length_cons, List.length_nil, Nat.reduceAdd, Nat.reduceSub, Array.replicate_succ, Array.replicate_zero, List.push_toArray, List.append_toArray, List.nil_append, List.cons_append]
  obtain ⟨⟨c0, cf⟩, c1, c2⟩ := H.out.sp
  gi_wp2
  gi_loopw [7, 8] (fun _ _ wr => ∃ (k : Nat) (ps' : List Piece), k < (parts s).length ∧ Hid (R k ps') ∧ Hid (Pool w0 wr (spP g (restN s k) :: ps'))) (fun _ _ wr => cellLen wr ⟨g, 0, none⟩)
  case atStart => exact ⟨0, ps, parts_pos s, H0.out, H.out⟩
  case round =>
    clear H c0 cf c1 c2 H0
    obtain ⟨k, ps', hk, HR, H⟩ := hrel
    obtain ⟨⟨c0, cf⟩, c1, c2⟩ := H.out.sp
    have hp := restN_parts hk
    have hz := restN_size (s := s) k
    obtain ⟨x, hx⟩ : ∃ x, restN s k = x := ⟨_, rfl⟩
    have hnx : restN s (k + 1) = aftB 32 x := by rw [← hx]; rfl
    rw [hx] at H c0 hp hz
    have KI : Hid (∀ w, CallsIn Fence.wide (n - 1) Tryd.prog 93 #[.string x, .string (⟨#[32]⟩ : Str)] w fun e w' => e = .returned (.int .i64 (findB 32 x)) ∧ w' = w) := fun w => callsIn_wide.2 (Tryd.strings_Index_one x 32 w)
    by_cases hf : findB 32 x < 0
    · have hlast : (parts s)[k]? = some x := by
        rw [parts_miss hf] at hp
        have := congrArg (·[0]?) hp
        simp only [List.getElem?_drop, Nat.add_zero] at this
        exact this.symm
      have hkl : k + 1 = (parts s).length := by
        rw [parts_miss hf] at hp
        have := congrArg List.length hp
        rw [List.length_drop] at this
        simp at this; omega
      have hfn := findB_neg hf
      rw [hfn] at KI
      obtain ⟨fn, tmps, assign, body, hy, hR⟩ := HY.out k x wr ps' hlast HR.out (by rw [hx]; exact H.out)
      have Hkl := Lib.hid hkl
      have Hx := Lib.hid hx
      clear hf hfn hp hlast hkl hx hnx hk
      gi_wp2_with (refine ⟨trivial, ?_⟩; gi_at_call 93; refine (KI.out _).mono ?_; rintro e w' ⟨rfl, rfl⟩)
      refine hR.mono ?_
      rintro e W' (⟨rfl, qs, hR', hP⟩ | ⟨rfl, qs, hR', hP⟩)
      · have Hr : R (parts s).length qs := by rw [← Hkl.out]; exact hR'
        have HP := Lib.hid hP
        clear hP hR'
        gi_wp2
        go_end0
        exact ⟨⟨_, rfl⟩, k, qs, .inl Hr, HP.out⟩
      · have HP := Lib.hid hP
        have Hr := Lib.hid hR'
        clear hP hR'
        gi_wp2
        go_end0
        exact ⟨⟨_, rfl⟩, k, qs, .inr Hr.out, HP.out⟩
    · have h0 : 0 ≤ findB 32 x := by omega
      have hlt := findB_lt h0
      have has := aft_size h0
      have hbx : befB 32 x = x.extract 0 (findB 32 x).toNat := rfl
      have hax : aftB 32 x = x.extract ((findB 32 x).toNat + 1) x.size := rfl
      have hcur : (parts s)[k]? = some (befB 32 x) := by
        rw [parts_hit h0] at hp
        have := congrArg (·[0]?) hp
        simp only [List.getElem?_drop, Nat.add_zero] at this
        exact this.symm
      have hk1 : k + 1 < (parts s).length := by
        rw [parts_hit h0] at hp
        have := congrArg List.length hp
        rw [List.length_drop, List.length_cons] at this
        have := parts_pos (aftB 32 x)
        omega
      obtain ⟨i, hi⟩ := Int.eq_ofNat_of_zero_le h0
      have hi2 : (findB 32 x).toNat = i := by rw [hi]; rfl
      rw [hi2] at hlt hbx hax
      rw [hi] at KI
      rw [hbx] at hcur
      obtain ⟨fn, tmps, assign, body, hy, hR⟩ := HY.out k _ wr ps' hcur HR.out (by rw [hx]; exact H.out)
      have i0 : (0 : Int) ≤ (i : Int) := by omega
      have i1 : (i : Int) ≤ (x.size : Int) := by omega
      have i2 : (0 : Int) ≤ (i : Int) + 1 := by omega
      have i3 : (i : Int) + 1 ≤ (x.size : Int) := by omega
      have Hx := Lib.hid hx
      have Hk1 := Lib.hid hk1
      have Hn : Hid (restN s (k + 1) = x.extract (i + 1) x.size) := by show _ = _; rw [hnx, hax]
      have Has : Hid ((x.extract (i + 1) x.size).size < x.size) := by show _ < _; rw [← hax]; exact has
      clear hf hp hcur hk1 hx hnx hk hi hi2 hbx hax h0 has hlt
      gi_wp2_with (refine ⟨trivial, ?_⟩; gi_at_call 93; refine (KI.out _).mono ?_; rintro e w' ⟨rfl, rfl⟩)
      refine hR.mono ?_
      rintro e W' (⟨rfl, qs, hR', hP⟩ | ⟨rfl, qs, hR', hP⟩)
      · have Hr := Lib.hid hR'
        have HP : Hid (Pool w0 W' (spP g x :: qs)) := by have := hP; rw [Hx.out] at this; exact this
        have HS := Lib.hid (HP.out.setSp (x.extract (i + 1) x.size))
        clear hP hR'
        obtain ⟨⟨d0, df⟩, d1, d2⟩ := HP.out.sp
        gi_wp2
        go_roundw
        case rel => exact ⟨k + 1, qs, Hk1.out, Hr.out, by rw [Hn.out]; exact HS.out⟩
        case measure =>
          rw [cellLen_eq HS.out.sp.1.1, cellLen_eq c0]
          exact Has.out
      · have HP := Lib.hid hP
        have Hr := Lib.hid hR'
        clear hP hR'
        gi_wp2
        refine bodyPost_ret (results_none rfl _ _ _) rfl ?_
        exact ⟨⟨_, rfl⟩, k, qs, .inr Hr.out, HP.out⟩

end
end Go.Proofs.YtjibjoapbjojlaaDoor
