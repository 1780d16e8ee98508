/-
  Orders out of their text: the program's.
-/
import Derived.Test.YtjibjoapbjojlaaDoorSq
import Derived.Test.YtjibjoapbjojlaaDoorFmA
import Derived.Test.YtjibjoapbjojlaaDoorFwR
import Derived.Deep.AppendLies
namespace Go.Proofs.YtjibjoapbjojlaaDoor
open Go.RowKit Go.Shelf
attribute [local go_sem] Oper.semAt_some

/-- append of one element in a round, and where the new slice lies. -/
theorem wpListIn_append1L {F : Fence} {m : Nat} {P : Program} {α : Type} {w : World} {ops : Array Oper} {rest : List Oper} {o : Oper} {a : Act} {Q : Exit → Act → World → Prop} {enc : α → List Value} (s x : Operand) (t e : TypeId) {z : Value} {size bytes : Nat}
    (hinfo : (P.info? e).map (fun i => (i.zero, i.size, i.bytes)) = some (some z, size, bytes)) (ht : P.underlying t = some (.slice e)) (hzs : z.cells.size = size) (hsz : 0 < size)
    (hgd : o.guard = none) (ho : o.op = .call { callee := .builtin .append, args := #[s, x], argTypes := #[t, t] })
    {base k : Nat} {v : Value} {l : List α} (y : α) (hs : a.eval s = v) (hk : k = l.length) (hown : Own w base e size enc v l) {ad : Addr} {c : Nat} (hx : a.eval x = .slice (some ad) 1 c) (henc : ∀ x, (enc x).length = size)
    (hy : ∀ j u, (enc y)[j]? = some u → w.cell? (ad.add j) = some u) (h1 : ∀ u ∈ enc y, u.oneCell' = true) (hl : (k + 1) * bytes ≤ 140737488355328) (h63 : k + 1 ≤ 9223372036854775807) (hbase : base ≤ w.heap.size)
    (h : ∀ g c' w', Own w' base e size enc (.slice (some ⟨g, 0, none⟩) (k + 1) c') (l ++ [y]) → w.grownBy w' v.ownBlock → (v.ownBlock = some g ∨ w.heap.size ≤ g) → wpListIn F m P ops Q rest (a.put o.dst (.slice (some ⟨g, 0, none⟩) (k + 1) c')) w') : wpListIn F m P ops Q (o :: rest) a w := by
  subst hk
  obtain ⟨i0, hi, hz0, hz1, hz2⟩ := info_parts hinfo
  refine wpListIn_plain hgd fun K hK => ?_
  obtain ⟨g, cap, w', hrun, h2, h3, h4, _⟩ := run_append_lies (P := P) (w := w) t o.type base e i0 z size bytes ht hi hz0 hz1 hz2 hzs hsz v l.length (l.flatMap enc) hown ad 1 c (enc y) (by rw [henc, Nat.one_mul]) hy h1 (by omega) (by unfold maxLen; omega) hl hbase _ rfl
  unfold Oper.wpIn
  refine ⟨by simp [Oper.about, ho, resolve, Target.leads, Sem.run_pure], ?_⟩
  rw [Oper.semAt_plain F _ _ (by rw [ho]; intro c hc'; cases hc')]
  simp [execOp, ho, resolve, invoke, builtin, hs, hx, hrun, Result.andThen]
  exact hK _ _ (h g cap w' (own_push h2 rfl) h3 (by rcases h4 with h' | h'; exact .inl h'; exact .inr (by omega)))

/-- A block of one cell. -/
def oneP (b : Nat) (v : Value) : Piece :=
  ⟨[b], fun w => w.cell? ⟨b, 0, none⟩ = some v ∧ w.frozen? ⟨b, 0, none⟩ = false, fun _ _ _ hk h => ⟨(World.cell?_of_block (a := ⟨b, 0, none⟩) (hk b (by simp))).trans h.1, (World.frozen?_of_block (a := ⟨b, 0, none⟩) (hk b (by simp))).trans h.2⟩⟩
section
variable {w0 w : World} {ps : List Piece} {b : Nat} {v : Value}
theorem Pool.one (h : Pool w0 w ps) (i : Nat) (hi : ps[i]? = some (oneP b v)) : w.cell? ⟨b, 0, none⟩ = some v ∧ w.frozen? ⟨b, 0, none⟩ = false := h.get i hi
theorem Pool.addOne (h : Pool w0 w ps) (hb : w.heap.size = b) (v : Value) (t : TypeId) : Pool w0 (w.alloc (.cells #[v] t)) (oneP b v :: ps) := by
  subst hb
  have e := heap_new w (.cells #[v] t)
  exact h.add ((Below.refl _ _).alloc (Nat.le_refl _) _) (oneP _ v) ⟨(cells_of_heap e 0).1, (cells_of_heap e 0).2⟩ (fun k hk => by simp [oneP] at hk; subst hk; simp)
theorem Pool.setOne (h : Pool w0 w ps) (i : Nat) (hi : ps[i]? = some (oneP b v)) (u : Value) : Pool w0 (w.setCell ⟨b, 0, none⟩ u) (ps.set i (oneP b u)) := by
  have hs := h.one i hi
  have hlt := (h.all _ (List.mem_of_getElem? hi)).2 b (by simp [oneP])
  have g1 := grown_setCell (World.grownBy.refl w (some b)) (p := ⟨b, 0, none⟩) (.inl rfl) u
  refine h.turn i hi (fun k hk => ⟨.inl hk, ?_⟩) ⟨World.cell?_setCell_same _ _ _ hs.1, by rw [World.frozen?_setCell]; exact hs.2⟩ g1.os g1.tape g1.output g1.size (fun k hk hm => g1.block k hk (by intro e; injection e with e; subst e; exact hm (by simp [oneP])))
  have hk : k ∈ [b] := hk
  have := List.mem_singleton.1 hk
  subst this
  exact Nat.lt_of_lt_of_le hlt.2 g1.size

end
def FwPR (r : List Fw × Bool) (w : World) (e : Ending) (w' : World) : Prop :=
  ∃ A n c, e = .returned (.tuple #[.slice A n c, .bool r.2]) ∧ Own w' w.heap.size 79 2 fwEnc (.slice A n c) r.1 ∧ Below w.heap.size w w'
theorem fwOf_size {p : Str} (h : p.size ≤ 1048576) : (fwOf p).1.size ≤ 1048576 ∧ (fwOf p).2.size ≤ 1048576 := by
  unfold fwOf befB aftB
  rw [ByteArray.size_extract, ByteArray.size_extract]
  omega

set_option maxHeartbeats 4000000 in
set_option maxRecDepth 100000 in
theorem implParseForwards (s : Str) (hs : s.size ≤ 1048576) (w : World) :
    Calls Tryd.prog 30 #[.string s] w fun e w' => FwPR (parseFw s) w e w' := by
  refine (callsIn_wide (n := 5)).1 ?_
  have hro : Fence.wide.round = none := rfl
  have H2 : Hid (Pool w ((w.alloc (.cells #[.slice none 0 0] 43)).alloc (.cells #[.bool false] 4)) [oneP (w.heap.size + 1) (.bool false), oneP w.heap.size (.slice none 0 0)]) := ((Pool.nil_ w).addOne rfl (.slice none 0 0) 43).addOne (by simp) (.bool false) 4
  refine callsIn_of_wp_marks Tryd.func30 rfl trivial ?_ hro
  simp only [Tryd.ntmps30, List.size_toArray, List.length_cons, List.length_nil, Nat.reduceAdd, Nat.reduceSub, Array.replicate_succ, Array.replicate_zero, List.push_toArray, List.append_toArray, List.nil_append, List.cons_append]
  obtain ⟨r1, f1⟩ := H2.out.one 0 rfl
  obtain ⟨r0, f0⟩ := H2.out.one 1 rfl
  by_cases hd : s = cDash
  · have hq : (ByteArray.toList s == [45]) = true := by
      have := str_t (b := (⟨#[45]⟩ : Str)) hd
      simpa using this
    have Hr : Hid (parseFw s = ([], true)) := by show _ = _; rw [hd]; exact parseFw_dash
    have H3 : Hid (Pool w ((w.alloc (.cells #[.slice none 0 0] 43)).alloc (.cells #[.bool true] 4)) [oneP (w.heap.size + 1) (.bool true), oneP w.heap.size (.slice none 0 0)]) := ((Pool.nil_ w).addOne rfl (.slice none 0 0) 43).addOne (by simp) (.bool true) 4
    obtain ⟨s1, -⟩ := H3.out.one 0 rfl
    obtain ⟨s0, -⟩ := H3.out.one 1 rfl
    clear hd
    gi_wp2
    refine ⟨.tuple #[.slice none 0 0, .bool true], by simp [results, Tryd.results30, go_sem, s0, s1], ?_⟩
    show FwPR _ _ _ _
    rw [Hr.out]
    exact ⟨none, 0, 0, rfl, Own.nil_ _ _ _ _ _, H3.out.below⟩
  · have hq : (ByteArray.toList s == [45]) = false := by
      have := str_f (b := (⟨#[45]⟩ : Str)) hd
      simpa using this
    have Hd := Lib.hid hd
    clear hd
    have H4 : Hid (Pool w (((w.alloc (.cells #[.slice none 0 0] 43)).alloc (.cells #[.bool false] 4)).alloc (.cells #[.slice none 0 0] 43)) [oneP (w.heap.size + 1 + 1) (.slice none 0 0), oneP (w.heap.size + 1) (.bool false), oneP w.heap.size (.slice none 0 0)]) := H2.out.addOne (by simp) (.slice none 0 0) 43
    have KS : Hid (∀ W, CallsIn Fence.wide 4 Tryd.prog 37 #[.string s, .string (⟨#[32]⟩ : Str)] W fun e w' => e = .returned (.func (.func 91) #[] #[.pointer (some ⟨W.heap.size + 1, 0, none⟩), .pointer (some ⟨W.heap.size, 0, none⟩), .pointer (some ⟨W.heap.size + 2, 0, none⟩)]) ∧ w' = (((W.alloc (.cells #[.string s] 9)).alloc (.cells #[.string (⟨#[32]⟩ : Str)] 9)).alloc (.cells #[.int .i64 0] 3))) := fun W => callsIn_wide.2 (splitSeqC s W)
    gi_wp2_with (refine ⟨trivial, ?_⟩; gi_at_call 37; refine (KS.out _).mono ?_; rintro e w' ⟨rfl, hw'⟩)
    rw [← hw']
    have H5 : Hid (Pool w w' (spP (w.heap.size + 1 + 1 + 1) s :: [ownP 79 2 fwEnc (.slice none 0 0) [], oneP (w.heap.size + 1 + 1) (.slice none 0 0), oneP (w.heap.size + 1) (.bool false), oneP w.heap.size (.slice none 0 0)])) := by
      show Pool _ _ _
      rw [hw']
      exact ((H4.out.addSp s _ _ (by simp)).add (Below.refl _ _) (ownP 79 2 fwEnc (.slice none 0 0) []) (Own.nil_ _ _ _ _ _) (fun k hk => by simp [ownP, Value.ownBlock] at hk)).perm (List.Perm.swap _ _ _)
    clear hw' H4 H2 r0 r1 f0 f1 KS hq
    have Hz : Hid (∀ x ∈ parts s, x.size ≤ 1048576) := fun x hx => by have := parts_size hx; omega
    refine wpIn_rangeIter (t := 13) hro (by decide) (gf := 91) (lb := #[.pointer (some ⟨w.heap.size + 1 + 1 + 1 + 1, 0, none⟩), .pointer (some ⟨w.heap.size + 1 + 1 + 1, 0, none⟩), .pointer (some ⟨w.heap.size + 1 + 1 + 1 + 2, 0, none⟩)]) rfl trivial (enters_of Tryd.func91 (by kernel_rfl) rfl) (splitIter 4 (by decide) s hs w (w.heap.size + 1 + 1 + 1))
      (fun k qs => k ≤ 30 ∧ (∀ p ∈ (parts s).take k, 0 ≤ findB 62 p) ∧ ∃ A n c, qs = [ownP 79 2 fwEnc (.slice A n c) (((parts s).take k).map fwOf), oneP (w.heap.size + 1 + 1) (.slice A n c), oneP (w.heap.size + 1) (.bool false), oneP w.heap.size (.slice none 0 0)])
      (fun c qs => c = .ret ∧ parseFw s = ([], false) ∧ ∃ A n c L, qs = [ownP 79 2 fwEnc (.slice A n c) L, oneP (w.heap.size + 1 + 1) (.slice A n c), oneP (w.heap.size + 1) (.bool false), oneP w.heap.size (.slice none 0 0)])
      ⟨Nat.zero_le _, fun p hp => by simp at hp, none, 0, 0, rfl⟩ H5.out
      (fun x => { tmps := #[.string s, undef, .pointer (some ⟨w.heap.size, 0, none⟩), .pointer (some ⟨w.heap.size + 1, 0, none⟩), .pointer (some ⟨w.heap.size + 1 + 1, 0, none⟩), .string x, undef, undef, undef, .string s, .bool false, .string s, .func (.func 91) #[] #[.pointer (some ⟨w.heap.size + 1 + 1 + 1 + 1, 0, none⟩), .pointer (some ⟨w.heap.size + 1 + 1 + 1, 0, none⟩), .pointer (some ⟨w.heap.size + 1 + 1 + 1 + 2, 0, none⟩)], .string x, undef, undef, undef, undef, undef, undef, undef, undef, undef, undef, undef, undef, undef, undef, undef, undef, undef, undef, undef, undef, undef, undef, undef], defers := [] }) ?assign ?body ?done ?stop
    case assign =>
      intro l x W K hK
      gi_wp2
      exact hK
    case body =>
      rintro l k x W qs cs hx ⟨hk, hfound, A, n, c, rfl⟩ HP
      have H : Hid (Pool w W (ownP 79 2 fwEnc (.slice A n c) (((parts s).take k).map fwOf) :: oneP (w.heap.size + 1 + 1) (.slice A n c) :: oneP (w.heap.size + 1) (.bool false) :: oneP w.heap.size (.slice none 0 0) :: cs)) := HP
      have hxz := Hz.out x (List.mem_of_getElem? hx)
      have KC : Hid (∀ W, CallsIn (Fence.wide.inRound l) (5 - 1 - 1 - 1) Tryd.prog 38 #[.string x, .string (⟨#[62]⟩ : Str)] W fun e w' => ∃ y z, e = .returned (.tuple #[.string y, .string z, .bool (decide (0 ≤ findB 62 x))]) ∧ (0 ≤ findB 62 x → y = befB 62 x ∧ z = aftB 62 x) ∧ ∃ n, w' = W.drewN n) := fun W => CallsIn.inRound l (callsIn_wide.2 (implCut x 62 hxz W))
      have hlen : n = k := by
        have h1 := (H.out.own 0 rfl).len
        have h2 := (List.getElem?_eq_some_iff.1 hx).1
        rw [List.length_map, List.length_take] at h1
        omega
      have Hx := Lib.hid hx
      have Hfound := Lib.hid hfound
      subst hlen
      obtain ⟨b4, e4⟩ := H.out.one 1 rfl
      obtain ⟨b3, e3⟩ := H.out.one 2 rfl
      obtain ⟨b2, e2⟩ := H.out.one 3 rfl
      clear hx hfound HP
      by_cases hf : findB 62 x < 0
      · have hdec : decide (0 ≤ findB 62 x) = false := by simpa using hf
        have Hr : Hid (parseFw s = ([], false)) := parseFw_no Hd.out (List.mem_of_getElem? Hx.out) hf
        rw [hdec] at KC
        clear hf hdec
        gi_wp2_with (refine ⟨trivial, ?_⟩; gi_at_call 38; refine (KC.out _).mono ?_; rintro e w' ⟨y, z, rfl, -, q, rfl⟩)
        exact ⟨_, ⟨rfl, Hr.out, A, n, c, _, rfl⟩, (((H.out.drew q).setOne 3 rfl (.slice none 0 0)).setOne 2 rfl (.bool false))⟩
      · have hf0 : 0 ≤ findB 62 x := by omega
        have hdec : decide (0 ≤ findB 62 x) = true := by simpa using hf0
        have Hf := Lib.hid hf0
        rw [hdec] at KC
        by_cases h30 : n = 30
        · have Hr : Hid (parseFw s = ([], false)) := parseFw_long Hd.out (by have := (List.getElem?_eq_some_iff.1 Hx.out).1; omega)
          have h30I : ((n : Int) == 30) = true := by rw [h30]; rfl
          clear hf hf0 hdec h30
          gi_wp2_with (refine ⟨trivial, ?_⟩; gi_at_call 38; refine (KC.out _).mono ?_; rintro e w' ⟨y, z, rfl, -, q, rfl⟩)
          exact ⟨_, ⟨rfl, Hr.out, A, n, c, _, rfl⟩, (((H.out.drew q).setOne 3 rfl (.slice none 0 0)).setOne 2 rfl (.bool false))⟩
        · have h30I : ((n : Int) == 30) = false := beq_eq_false_iff_ne.2 (by omega)
          have hk1 : n + 1 ≤ 30 := by omega
          have Hlen := Lib.hid (H.out.own 0 rfl).len
          have Ht : Hid (((parts s).take (n + 1)).map fwOf = ((parts s).take n).map fwOf ++ [(befB 62 x, aftB 62 x)]) := by
            show _ = _
            rw [List.take_add_one, Hx.out, List.map_append]; rfl
          have Hfd : Hid (∀ p ∈ (parts s).take (n + 1), 0 ≤ findB 62 p) := fun p hp => by
            rw [List.take_add_one, Hx.out] at hp
            rcases List.mem_append.1 hp with hp | hp
            · exact Hfound.out p hp
            · have hp := List.mem_singleton.1 (show p ∈ [x] from hp)
              subst hp; exact Hf.out
          obtain ⟨Y, hY⟩ : ∃ Y, befB 62 x = Y := ⟨_, rfl⟩
          obtain ⟨Z, hZ⟩ : ∃ Z, aftB 62 x = Z := ⟨_, rfl⟩
          rw [hY, hZ] at Ht
          have KD : Hid (∀ W, CallsIn (Fence.wide.inRound l) (5 - 1 - 1 - 1) Tryd.prog 38 #[.string x, .string (⟨#[62]⟩ : Str)] W fun e w' => e = .returned (.tuple #[.string Y, .string Z, .bool true]) ∧ ∃ n, w' = W.drewN n) := fun W => (KC.out W).mono fun _ _ ⟨y, z, he, hyz, hw⟩ => by
            obtain ⟨e1, e2⟩ := hyz Hf.out
            subst e1 e2
            rw [hY, hZ] at he
            exact ⟨he, hw⟩
          clear hf hf0 hdec KC hY hZ
          gi_wp2_with (first
            | (refine ⟨trivial, ?_⟩; gi_at_call 38; refine (KD.out _).mono ?_; rintro e w' ⟨rfl, q, rfl⟩)
            | (gi_at_builtin; refine wpListIn_append1L (.tmp 27) (.tmp 31) 43 79 fw_info Tryd.underlying43 rfl (by decide) rfl rfl (Y, Z) rfl Hlen.out (((H.out.drew q).alloc (Obj.cells #[.string Y, .string Z] 79)).own 0 rfl) rfl fwEnc_len (fwEnc_cells (Y, Z) rfl) (fwEnc_one _) (by omega) (by omega) (Nat.zero_le _) ?_; intro g3 c3 w5 ho3 hg3 hat3; have H5 := Lib.hid (((H.out.drew q).alloc (Obj.cells #[.string Y, .string Z] 79)).append 0 rfl ho3 hg3 (fun q e => by injection e with e; subst e; exact hat3)); clear ho3 hg3 hat3; obtain ⟨b5, e5⟩ := H5.out.one 1 rfl))
          refine ⟨[ownP 79 2 fwEnc (.slice (some ⟨g3, 0, none⟩) (n + 1) c3) (((parts s).take (n + 1)).map fwOf), oneP (w.heap.size + 1 + 1) (.slice (some ⟨g3, 0, none⟩) (n + 1) c3), oneP (w.heap.size + 1) (.bool false), oneP w.heap.size (.slice none 0 0)], ⟨hk1, Hfd.out, _, _, _, rfl⟩, ?_⟩
          rw [Ht.out]
          exact H5.out.setOne 1 rfl (.slice (some ⟨g3, 0, none⟩) (n + 1) c3)
    case done =>
      rintro D k W qs ⟨hk, hfound, A, n, c, rfl⟩ HP
      rw [List.take_length] at hfound HP
      have HP := Lib.hid HP
      have hall := parseFw_all Hd.out hk hfound
      obtain ⟨L, hL⟩ : ∃ L, (parts s).map fwOf = L := ⟨_, rfl⟩
      have HzL : Hid (∀ x ∈ L, x.1.size ≤ 1048576 ∧ x.2.size ≤ 1048576) := fun x hx => by
        rw [← hL] at hx
        obtain ⟨p, hp, rfl⟩ := List.mem_map.1 hx
        exact fwOf_size (Hz.out p hp)
      have hLl : L.length ≤ 30 := by rw [← hL, List.length_map]; exact hk
      rw [hL] at HP hall
      have hlen := (HP.out.own 2 rfl).len
      have hcap := (HP.out.own 2 rfl).cap_le
      have Hlen := Lib.hid hlen
      have Hcap := Lib.hid hcap
      have hn30 : n ≤ 30 := by omega
      have Hall := Lib.hid hall
      obtain ⟨b4, e4⟩ := HP.out.one 3 rfl
      have KV : Hid (CallsIn Fence.wide 4 Tryd.prog 29 #[.slice A n c] W fun e w' => e = .returned (.bool (fwsOk L)) ∧ Below W.heap.size W w') := callsIn_wide.2 (implForwardsValid A L n c Hlen.out Hcap.out W (by omega) HzL.out ((HP.out.own 2 rfl).rd fwEnc_len))
      clear hfound hall hL hlen hcap hk
      cases hv : fwsOk L
      · rw [hv] at KV Hall
        have Hr : Hid (parseFw s = ([], false)) := by show _ = _; rw [Hall.out]; rfl
        clear hv
        gi_wp2_with (refine ⟨trivial, ?_⟩; gi_at_call 29; refine KV.out.mono ?_; rintro e w' ⟨rfl, hb⟩; have H6 := Lib.hid (HP.out.step hb); clear hb; obtain ⟨b2, e2⟩ := H6.out.one 5 rfl; obtain ⟨b3, e3⟩ := H6.out.one 4 rfl; obtain ⟨b5, e5⟩ := H6.out.one 3 rfl)
        have H7 := Lib.hid ((H6.out.setOne 5 rfl (.slice none 0 0)).setOne 4 rfl (.bool false))
        have H8 := Lib.hid (H7.out.put 1 rfl (.deferred none))
        obtain ⟨s1, -⟩ := H8.out.one 4 rfl
        obtain ⟨s0, -⟩ := H8.out.one 5 rfl
        refine ⟨by simp, .inl ⟨_, _, rfl, run_takeDeferred (H7.out.obj 1 rfl), ?_⟩⟩
        refine ⟨.tuple #[.slice none 0 0, .bool false], by simp [results, Tryd.results30, go_sem, s0, s1], ?_⟩
        show FwPR _ _ _ _
        rw [Hr.out]
        exact ⟨none, 0, 0, rfl, Own.nil_ _ _ _ _ _, H8.out.below⟩
      · rw [hv] at KV Hall
        have Hr : Hid (parseFw s = (L, true)) := by show _ = _; rw [Hall.out]; rfl
        clear hv
        gi_wp2_with (refine ⟨trivial, ?_⟩; gi_at_call 29; refine KV.out.mono ?_; rintro e w' ⟨rfl, hb⟩; have H6 := Lib.hid (HP.out.step hb); clear hb; obtain ⟨b2, e2⟩ := H6.out.one 5 rfl; obtain ⟨b3, e3⟩ := H6.out.one 4 rfl; obtain ⟨b5, e5⟩ := H6.out.one 3 rfl)
        have H7 := Lib.hid ((H6.out.setOne 5 rfl (.slice A n c)).setOne 4 rfl (.bool true))
        have H8 := Lib.hid (H7.out.put 1 rfl (.deferred none))
        obtain ⟨s1, -⟩ := H8.out.one 4 rfl
        obtain ⟨s0, -⟩ := H8.out.one 5 rfl
        refine ⟨by simp, .inl ⟨_, _, rfl, run_takeDeferred (H7.out.obj 1 rfl), ?_⟩⟩
        refine ⟨.tuple #[.slice A n c, .bool true], by simp [results, Tryd.results30, go_sem, s0, s1], ?_⟩
        show FwPR _ _ _ _
        rw [Hr.out]
        exact ⟨A, n, c, rfl, H8.out.res 2 rfl, H8.out.below⟩
    case stop =>
      rintro D k c W qs ⟨rfl, hr, A, n, c', L, rfl⟩ HP
      have H7 := Lib.hid HP
      have Hr := Lib.hid hr
      clear HP hr
      gi_wp2
      have H8 := Lib.hid (H7.out.put 1 rfl (.deferred none))
      obtain ⟨s1, -⟩ := H8.out.one 4 rfl
      obtain ⟨s0, -⟩ := H8.out.one 5 rfl
      refine ⟨by simp, .inl ⟨_, _, rfl, run_takeDeferred (H7.out.obj 1 rfl), ?_⟩⟩
      refine ⟨.tuple #[.slice none 0 0, .bool false], by simp [results, Tryd.results30, go_sem, s0, s1], ?_⟩
      show FwPR _ _ _ _
      rw [Hr.out]
      exact ⟨none, 0, 0, rfl, Own.nil_ _ _ _ _ _, H8.out.below⟩
end Go.Proofs.YtjibjoapbjojlaaDoor
