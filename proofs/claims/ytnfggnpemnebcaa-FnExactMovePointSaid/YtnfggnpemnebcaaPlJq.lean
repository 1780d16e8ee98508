/-
  Two plans joined: the calls of the law's regions that draw their order, over a Pool.
-/
import Derived.Test.YtnfggnpemnebcaaPlJp
import Derived.Deep.Cut
import Derived.Deep.CutRange
namespace Go.Proofs.Ytnfggnpemnebcaa
open Go.RowKit

theorem toPlanAt {w0 w : World} {ps : List Piece} (b p : Int) (A : Option Addr) (l : List Str) (n cap : Nat) (hl : n = l.length) (H : Pool w0 w ps) (hn : n ≤ 16777216) (h : Rd w0 1 strEnc A l) :
    Calls Try.prog 11 #[.agg #[.int .i64 b, .int .i64 p, .slice A n cap]] w fun e w' => ∃ g, e = .returned (.agg #[.int .i64 b, .int .i64 p, .slice (some ⟨g, 0, none⟩) n n]) ∧ Hid (Pool w0 w' (ownP 9 1 strEnc (.slice (some ⟨g, 0, none⟩) n n) l :: ps)) :=
  (lawToPlan' b p A l n cap hl w hn (h.below H.below)).mono fun _ _ ⟨g, he, ho, hb⟩ => ⟨g, he, H.addOwn hb ho⟩

theorem specJoinAt {w0 w : World} {ps : List Piece} {b p b' p' : Int} {A A' : Option Addr} {l l' : List Str} {n cap n' cap' : Nat} {r : PlR} (hv : joinR b p l b' p' l' = r) (hl : n = l.length) (hl' : n' = l'.length) (H : Pool w0 w ps) (hnil : A = none → cap = 0) (hnil' : A' = none → cap' = 0) (hn : n ≤ 1048576) (hn' : n' ≤ 1048576) (hs : ∀ x ∈ l, x.size ≤ 1048576) (hs' : ∀ x ∈ l', x.size ≤ 1048576) (h : Rd w 1 strEnc A l) (h' : Rd w 1 strEnc A' l') :
    Calls Try.prog 10 #[.agg #[.int .i64 b, .int .i64 p, .slice A n cap], .agg #[.int .i64 b', .int .i64 p', .slice A' n' cap']] w fun e w' => ∃ B k c, e = .returned (.tuple #[.agg #[.int .i64 r.b, .int .i64 r.p, .slice B k c], .bool r.ok]) ∧ Hid (Pool w0 w' (ownP 9 1 strEnc (.slice B k c) r.l :: ps)) := by
  subst hv
  exact (specJoinPlans b p b' p' A A' l l' n cap n' cap' hl hl' hnil hnil' w hn hn' hs hs' h h').mono fun _ _ ⟨B, k, c, he, ho, hb⟩ => ⟨B, k, c, he, H.addOwn hb ho⟩

theorem implJoinAt {w0 w : World} {ps : List Piece} {b p b' p' : Int} {A A' : Option Addr} {l l' : List Str} {n cap n' cap' : Nat} {r : PlR} (hv : joinR b p l b' p' l' = r) (hl : n = l.length) (hl' : n' = l'.length) (hcap : n ≤ cap) (hcap' : n' ≤ cap') (H : Pool w0 w ps) (hnil : A = none → cap = 0) (hnil' : A' = none → cap' = 0) (hn : n ≤ 1048576) (hn' : n' ≤ 1048576) (hs : ∀ x ∈ l, x.size ≤ 1048576) (hs' : ∀ x ∈ l', x.size ≤ 1048576) (h : Rd w 1 strEnc A l) (h' : Rd w 1 strEnc A' l') :
    Calls Try.prog 12 #[.agg #[.int .i64 b, .int .i64 p, .slice A n cap], .agg #[.int .i64 b', .int .i64 p', .slice A' n' cap']] w fun e w' => ∃ B k c, e = .returned (.tuple #[.agg #[.int .i64 r.b, .int .i64 r.p, .slice B k c], .bool r.ok]) ∧ Hid (Pool w0 w' (ownP 9 1 strEnc (.slice B k c) r.l :: ps)) := by
  subst hv
  exact (implJoinPlans b p b' p' A A' l l' n cap n' cap' hl hl' hcap hcap' hnil hnil' w hn hn' hs hs' h h').mono fun _ _ ⟨B, k, c, he, ho, hb⟩ => ⟨B, k, c, he, H.addOwn hb ho⟩
end Go.Proofs.Ytnfggnpemnebcaa
