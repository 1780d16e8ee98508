/-
  Two plans joined: the reference's.
-/
import Derived.Test.YtkhcjgkjfmeidaaPlJb
namespace Go.Proofs.Ytkhcjgkjfmeidaa
open Go.RowKit

/-- append onto a list of texts of the pool, as a step of a region that draws. -/
theorem step_appendP {P : Program} {w0 w : World} {ps : List Piece} {ops : Array Oper} {o : Oper} {a : Act} {K : Act → World → Prop} {Q : Exit → Act → World → Prop} {F : Prop} (s x : Operand) {k n c : Nat} {v : Value} {l ys : List Str} {A : Option Addr} {t : TypeId}
    (H : Pool w0 w ps) (i : Nat) (hi : ps[i]? = some (ownP 9 1 strEnc v l)) (hy : Rd w0 1 strEnc A ys) (hn : n = ys.length) (hnil : A = none → c = 0)
    (hinfo : (P.info? 9).map (fun i => (i.zero, i.size, i.bytes)) = some (some (.string ByteArray.empty), 1, 16)) (ht : P.underlying t = some (.slice 9))
    (ho : (o.guard, o.op) = (none, .call { callee := .builtin .append, args := #[s, x], argTypes := #[t, t] }))
    (hs : a.eval s = v) (hx : a.eval x = .slice A n c) (hk : k = l.length) (m : Nat) (hm : m = k + n) (hl : m * 16 ≤ 140737488355328)
    (h : ∀ A' c' w', Hid (Pool w0 w' (ps.set i (ownP 9 1 strEnc (.slice A' m c') (l ++ ys)))) → K (a.put o.dst (.slice A' m c')) w') :
    if Region.wanted o (yielded ops a.tmps) = true then Oper.wp P o a w K Q else F := by
  subst hm
  injection ho with hgd hop
  refine step_appendL s x t 9 hinfo ht rfl (by decide) hgd hop hs hx hk (H.own i hi) hn hnil strEnc_len (hy.below H.below) (fun y _ u hu => by simp [strEnc] at hu; subst hu; rfl) hl (by omega) (Nat.zero_le _) fun A' c' w' ho hg hat => h A' c' w' (H.append i hi ho hg fun k e => ?_)
  rcases hat with h | h
  · exact .inl (h.symm.trans e)
  · exact .inr (by have := Option.some.inj (h.symm.trans e); omega)
end Go.Proofs.Ytkhcjgkjfmeidaa
