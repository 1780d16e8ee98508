/-
  A range over a function whose iterator keeps a state of its own in memory: the statement's law over a Pool. No function of the program is named here.
-/
import Derived.Test.YtjibjoapbjojlaaDoorPool
import Derived.Test.YtjibjoapbjojlaaDoorFwM
import Derived.RangeFuncNested
import Derived.RangeFuncBound
import Derived.RangeFuncCalls
import Derived.RangeFuncLeaves
namespace Go.Proofs.YtjibjoapbjojlaaDoor
open Go.RowKit

/-- A block that holds an object. -/
def objP (b : Nat) (o : Obj) : Piece := ⟨[b], fun w => w.heap[b]? = some o, fun _ _ _ hk h => (hk b (by simp)).trans h⟩
section
variable {w0 w : World} {ps : List Piece} {b : Nat} {o : Obj}
theorem Pool.obj (h : Pool w0 w ps) (i : Nat) (hi : ps[i]? = some (objP b o)) : w.heap[b]? = some o := h.get i hi
theorem Pool.obj_lt (h : Pool w0 w ps) (i : Nat) (hi : ps[i]? = some (objP b o)) : w0.heap.size ≤ b ∧ b < w.heap.size := (h.all _ (List.mem_of_getElem? hi)).2 b (by simp [objP])
theorem Pool.addObj (h : Pool w0 w ps) (o : Obj) : Pool w0 (w.alloc o) (objP w.heap.size o :: ps) :=
  h.add ((Below.refl _ _).alloc (Nat.le_refl _) o) _ (World.alloc_heap_new w o) (fun k hk => by
    have hk : k ∈ [w.heap.size] := hk
    have := List.mem_singleton.1 hk
    subst this
    exact ⟨Nat.le_refl _, by simp⟩)
theorem Pool.put (h : Pool w0 w ps) (i : Nat) (hi : ps[i]? = some (objP b o)) (o' : Obj) : Pool w0 (w.putObj b o') (ps.set i (objP b o')) := by
  have hlt := h.obj_lt i hi
  refine h.turn i hi (fun k hk => ⟨.inl hk, ?_⟩) (World.putObj_heap_same hlt.2) rfl rfl rfl (by simp) (fun k hk hm => World.putObj_heap_other (fun e => hm (by simp [objP, e])))
  have hk : k ∈ [b] := hk
  have := List.mem_singleton.1 hk
  subst this
  simp; exact hlt.2
end

/-- How the body of a round may be left. -/
def rndPost (w0 : World) (cs : List Piece) (I : List Piece → Prop) (Ix : Code → List Piece → Prop) : Exit → Act → World → Prop
  | .normal, _, W => ∃ qs, I qs ∧ Pool w0 W (qs ++ cs)
  | .ret, _, W => ∃ qs, Ix .ret qs ∧ Pool w0 W (qs ++ cs)
  | .exit id, _, W => ∃ qs, Ix (.exit id) qs ∧ Pool w0 W (qs ++ cs)
  | .goto t, _, W => ∃ qs, Ix (.goto t) qs ∧ Pool w0 W (qs ++ cs)
  | .panic _, _, _ => False
  | .outgrown, _, _ => False

/-- The word of an iterator over the parts xs, whose state is the piece 'it k' when k parts have come. -/
def Iter (F : Fence) (n : Nat) (P : Program) (gf : Nat) (lb : Array Value) (w0 : World) (xs : List Str) (it : Nat → Piece) : Prop :=
  ∀ (l : Nat) (R : Nat → List Piece → Prop) (Rx : List Piece → Prop) (W : World) (ps : List Piece),
    (∀ k x W1 ps, xs[k]? = some x → R k ps → Pool w0 W1 (it k :: ps) → YieldAt F (n - 1) P l #[.string x] W1 fun e W' =>
      (e = .returned (.bool true) ∧ ∃ ps', R (k + 1) ps' ∧ Pool w0 W' (it k :: ps')) ∨ (e = .returned (.bool false) ∧ ∃ ps', Rx ps' ∧ Pool w0 W' (it k :: ps'))) →
    R 0 ps → Pool w0 W (it 0 :: ps) →
    CallsIn F n P gf (#[.func (.yield l) #[] #[]] ++ lb) W fun e W' => (∃ v, e = .returned v) ∧ ∃ k ps', (R xs.length ps' ∨ Rx ps') ∧ Pool w0 W' (it k :: ps')

theorem three_perm (a b c : Piece) (qs : List Piece) : (a :: b :: c :: qs).Perm (qs ++ [a, b, c]) := (List.perm_append_comm (l₁ := [a, b, c]) (l₂ := qs))

variable {F : Fence} {n : Nat} {P : Program}
theorem wpIn_rangeIter {g : Operand} {t : Tmp} {assign body : Code} {Q : Exit → Act → World → Prop} {a : Act} {w : World}
    (hro : F.round = none) (h1 : 1 ≤ n) {gf : Nat} {lb : Array Value} (hg : a.eval g = .func (.func gf) #[] lb) (hFg : F.fn gf) (eg : ∀ args w, (callFunc gf args).run P w = .ok (.enter gf args) w)
    {w0 : World} {xs : List Str} {it : Nat → Piece} (hit : Iter F (n - 1) P gf lb w0 xs it)
    (I : Nat → List Piece → Prop) (Ix : Code → List Piece → Prop) {qs0 : List Piece} (h0 : I 0 qs0) (H : Pool w0 w (it 0 :: qs0)) (a₁ : Str → Act)
    (hassign : ∀ (l : Nat) (x : Str) (W : World) (K : Act → World → Prop), K (a₁ x) W →
      assign.wpIn (F.inRound l) (n - 1 - 1) P (Exit.then K (fun _ _ _ => False)) { tmps := ((#[t] : Array Tmp).zip #[Value.string x]).foldl (fun t (p, v) => t.setIfInBounds p v) a.tmps, defers := [] } W)
    (hbody : ∀ (l k : Nat) (x : Str) (W : World) (qs cs : List Piece), xs[k]? = some x → I k qs → Pool w0 W (qs ++ cs) →
      body.wpIn (F.inRound l) (n - 1 - 1) P (rndPost w0 cs (I (k + 1)) Ix) (a₁ x) W)
    (hdone : ∀ (D k : Nat) (W : World) (qs : List Piece), I xs.length qs → Pool w0 W (it k :: objP D (.deferred (some [])) :: qs) → Q .normal { a with defers := { target := .collected D, args := #[] } :: a.defers } W)
    (hstop : ∀ (D k : Nat) (c : Code) (W : World) (qs : List Piece), Ix c qs → Pool w0 W (it k :: objP D (.deferred (some [])) :: qs) → c.wpIn F n P Q { a with defers := { target := .collected D, args := #[] } :: a.defers } W) :
    (Code.rangeFunc g #[t] assign body).wpIn F n P Q a w := by
  refine wpIn_rangeFunc ?_
  intro fn hfn
  rw [hro]
  obtain ⟨D, hD⟩ : ∃ D, w.heap.size = D := ⟨_, rfl⟩
  obtain ⟨rec, hrec⟩ : ∃ rec : LoopState → Option Code → Loop, rec = fun st pe => { state := st, pending := pe, fn, tmps := a.tmps, params := #[t], assign, body, defers := D } := ⟨_, rfl⟩
  have H1 := (H.addObj (.deferred (some []))).addObj (.loop (rec .ready none))
  rw [World.size_alloc, hD] at H1
  have H1 : Pool w0 ((w.alloc (.deferred (some []))).alloc (.loop (rec .ready none))) (it 0 :: objP (D + 1) (.loop (rec .ready none)) :: objP D (.deferred (some [])) :: qs0) :=
    H1.perm ((List.Perm.cons _ (List.Perm.swap _ _ _)).trans (List.Perm.swap _ _ _))
  obtain ⟨W1, hW1⟩ : ∃ W1, (w.alloc (.deferred (some []))).alloc (.loop (rec .ready none)) = W1 := ⟨_, rfl⟩
  rw [hW1] at H1
  refine ⟨D + 1, [{ target := .collected D, args := #[] }], W1, { target := .fn (.func gf) lb, args := #[.func (.yield (D + 1)) #[] #[]] }, W1, gf,
    #[.func (.yield (D + 1)) #[] #[]] ++ lb, W1, ?_, ?_, ?_, ?_, fun _ => h1, ?_⟩
  · rw [← hW1, hrec, ← hD]; exact run_enterLoop_outer _ _ _ _ _
  · simp only [resolve, hg]
    simp [go_sem]
  · intro f' hf'; simp [Target.leads] at hf'; subst hf'; exact hFg
  · simp [invoke, go_sem, eg]
  refine (hit (D + 1)
    (fun k ps => ∃ qs, I k qs ∧ ps = objP (D + 1) (.loop (rec .ready none)) :: objP D (.deferred (some [])) :: qs)
    (fun ps => ∃ c qs, Ix c qs ∧ ps = objP (D + 1) (.loop (rec .done (some c))) :: objP D (.deferred (some [])) :: qs)
    W1 _ ?_ ⟨qs0, h0, rfl⟩ H1).mono ?_
  · rintro k x W ps hx ⟨qs, hi, rfl⟩ HP
    have hl := HP.obj 1 rfl
    have hy := run_yield (P := P) (args := #[.string x]) hl (by rw [hrec]; rfl)
    rw [hrec] at hy
    refine ⟨fn, _, assign, body, hy, roundIn_of_wpIn hfn (hassign _ x W _ ⟨_, run_beginRound hl (by rw [hrec]), ?_⟩)⟩
    have HB : Pool w0 (W.putObj (D + 1) (.loop { rec .ready none with state := .busy })) (it k :: objP (D + 1) (.loop { rec .ready none with state := .busy }) :: objP D (.deferred (some [])) :: qs) := HP.put 1 rfl _
    refine wpIn_mono (hbody _ k x _ qs _ hx hi (HB.perm (three_perm _ _ _ _))) ?_
    have fin : ∀ (jump : Option Code) (W3 : World) (qs' : List Piece), Pool w0 W3 (qs' ++ [it k, objP (D + 1) (.loop { rec .ready none with state := .busy }), objP D (.deferred (some []))]) →
        (Instr.endRound (D + 1) jump).run P W3 = .ok (.bool jump.isNone) (W3.putObj (D + 1) (.loop (rec (if jump.isNone then .ready else .done) jump))) ∧
        Pool w0 (W3.putObj (D + 1) (.loop (rec (if jump.isNone then .ready else .done) jump))) (it k :: objP (D + 1) (.loop (rec (if jump.isNone then .ready else .done) jump)) :: objP D (.deferred (some [])) :: qs') := fun jump W3 qs' h3 => by
      have h3 := h3.perm (three_perm _ _ _ _).symm
      have hr := run_endRound (P := P) jump (h3.obj 1 rfl)
      have hp := h3.put 1 rfl (.loop (rec (if jump.isNone then .ready else .done) jump))
      rw [hrec] at hr hp ⊢
      exact ⟨hr, hp⟩
    rintro e a3 W3 hp
    cases e with
    | normal =>
      obtain ⟨qs', hi', h3⟩ := hp
      obtain ⟨hr, h4⟩ := fin none W3 qs' h3
      exact ⟨_, _, hr, .inl ⟨rfl, _, ⟨qs', hi', rfl⟩, h4⟩⟩
    | ret =>
      obtain ⟨qs', hi', h3⟩ := hp
      obtain ⟨hr, h4⟩ := fin (some .ret) W3 qs' h3
      exact ⟨_, _, hr, .inr ⟨rfl, _, ⟨.ret, qs', hi', rfl⟩, h4⟩⟩
    | exit id =>
      obtain ⟨qs', hi', h3⟩ := hp
      obtain ⟨hr, h4⟩ := fin (some (.exit id)) W3 qs' h3
      exact ⟨_, _, hr, .inr ⟨rfl, _, ⟨.exit id, qs', hi', rfl⟩, h4⟩⟩
    | goto t =>
      obtain ⟨qs', hi', h3⟩ := hp
      obtain ⟨hr, h4⟩ := fin (some (.goto t)) W3 qs' h3
      exact ⟨_, _, hr, .inr ⟨rfl, _, ⟨.goto t, qs', hi', rfl⟩, h4⟩⟩
    | panic ch => exact hp.elim
    | outgrown => exact hp.elim
  · rintro e W2 ⟨⟨v, rfl⟩, k, ps', hR, HP⟩
    rcases hR with ⟨qs, hi, rfl⟩ | ⟨c, qs, hi, rfl⟩
    · have hr := run_endLoop (P := P) (HP.obj 1 rfl) (by rw [hrec]; simp)
      have hp : Pool w0 (W2.putObj (D + 1) (.loop { rec .ready none with state := .exhausted })) (it k :: objP (D + 1) (.loop { rec .ready none with state := .exhausted }) :: objP D (.deferred (some [])) :: qs) := HP.put 1 rfl _
      rw [hrec] at hr hp
      exact ⟨none, _, hr, hdone D k _ qs hi (hp.drop 1)⟩
    · have hr := run_endLoop (P := P) (HP.obj 1 rfl) (by rw [hrec]; simp)
      have hp : Pool w0 (W2.putObj (D + 1) (.loop { rec .done (some c) with state := .exhausted })) (it k :: objP (D + 1) (.loop { rec .done (some c) with state := .exhausted }) :: objP D (.deferred (some [])) :: qs) := HP.put 1 rfl _
      rw [hrec] at hr hp
      exact ⟨some c, _, hr, hstop D k c _ qs hi (hp.drop 1)⟩
end Go.Proofs.YtjibjoapbjojlaaDoor
